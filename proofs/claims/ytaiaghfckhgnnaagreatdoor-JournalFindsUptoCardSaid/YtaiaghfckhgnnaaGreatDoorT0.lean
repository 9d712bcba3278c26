/- JournalTorn, JournalNumbers: the file that the law's house has written, plainly; where a place in it lies; what Parse finds of the file cut or spoilt; numbers as they lie. Conditions: each sentence's own. -/
import Derived.Test.YtaiaghfckhgnnaaGreatDoorJk
import Derived.Test.YtaiaghfckhgnnaaGreatDoorJn
import Derived.Test.YtaiaghfckhgnnaaGreatDoorT2
namespace Go.Proofs
open Go.Dm Go.Jn
set_option linter.unusedVariables false
set_option linter.unusedSimpArgs false
section
variable {most : Nat} {D : Dk} {hv : List (List UInt8)} {r : List UInt8}
/-- behind a Sync -/
theorem FS.synced (h : FS most D hv) : ∃ D2, (0 = hv.length → D2 = D) ∧ (0 ≠ hv.length → D.sync nL = (0, D2)) ∧ (hv = [] → D2 = D) ∧
    (hv ≠ [] → D2.size nL = ((fileOf 0 hv).length, (fileOf 0 hv).length, 0) ∧ D2.read nL 0 ((fileOf 0 hv).length : Int) = (fileOf 0 hv, 0)) := by
  by_cases hn : hv = []
  · exact ⟨D, fun _ => rfl, fun h0 => absurd (by rw [hn]; rfl) h0, fun _ => rfl, fun h0 => absurd hn h0⟩
  · have h1 : D.files = [⟨nL, fileOf 0 hv, 0⟩] := h.fl.elim (fun h => absurd h.2 hn) id
    refine ⟨{ D with files := [⟨nL, fileOf 0 hv, (fileOf 0 hv).length⟩] }, fun h0 => absurd (List.eq_nil_of_length_eq_zero h0.symm) hn, fun _ => ?_, fun h0 => absurd h0 hn, fun _ => ?_⟩
    · have hk := h.lk
      rw [if_neg (by rw [h1]; simp)] at hk
      unfold Dk.sync Dk.change
      rw [if_pos hk]
      have hfi : D.fires = false := by unfold Dk.fires; simp [h.st]
      rw [hfi]
      simp [Dk.tick, h.st, h1, upd]
    · have hlk : Dk.look { D with files := [(⟨nL, fileOf 0 hv, (fileOf 0 hv).length⟩ : Fl)] } nL = 0 := by
        unfold Dk.look
        simp only [h.up]
        rw [if_neg (by simp), if_pos okL]
        simp [Dm.get, beqL]
      have e1 : lenOf [(⟨nL, fileOf 0 hv, (fileOf 0 hv).length⟩ : Fl)] nL = (fileOf 0 hv).length := by simp [lenOf, Dm.get, beqL]
      have e2 : sureOf [(⟨nL, fileOf 0 hv, (fileOf 0 hv).length⟩ : Fl)] nL = (fileOf 0 hv).length := by simp [sureOf, Dm.get, beqL]
      have e3 : bytesOf [(⟨nL, fileOf 0 hv, (fileOf 0 hv).length⟩ : Fl)] nL = fileOf 0 hv := by simp [bytesOf, Dm.get, beqL]
      refine ⟨?_, ?_⟩
      · unfold Dk.size
        rw [if_pos hlk]
        simp only [e1, e2]
      · unfold Dk.read
        rw [if_pos hlk]
        simp only [e1, e3]
        rw [if_neg (by omega), show Int.toNat 0 = 0 from rfl, List.drop_zero, List.take_of_length_le (by simp)]
/-- a disk with just one file, all of it durable -/
def oneD (b : List UInt8) : Dk := ⟨1048576, [⟨nL, b, b.length⟩], false, 0, 0⟩
theorem oneD_look (b : List UInt8) : (oneD b).look nL = 0 := by
  unfold Dk.look oneD
  simp only
  rw [if_neg (by simp), if_pos okL]
  simp [Dm.get, beqL]
theorem oneD_size (b : List UInt8) : (oneD b).size nL = (b.length, b.length, 0) := by
  unfold Dk.size
  rw [if_pos (oneD_look b)]
  simp [oneD, lenOf, sureOf, Dm.get, beqL]
theorem oneD_bytes (b : List UInt8) : bytesOf (oneD b).files nL = b := by simp [oneD, bytesOf, Dm.get, beqL]
/-- Open over it: what Parse finds, the rest cut off -/
theorem oneD_open (b : List UInt8) {l : List (List UInt8)} {g y : Nat} (hp : jparse b = (l, g, y)) : openR (oneD b) nL = (l, b.length - g, 0, 0, oneD (b.take g)) := by
  have hg : g ≤ b.length := by have := parse_good_le b; rw [hp] at this; exact this
  unfold openR
  rw [oneD_size, if_neg (by simp), if_neg (by simp), oneD_bytes, hp]
  simp only
  rw [if_neg (show ¬ b.length < g by omega)]
  by_cases hgb : g < b.length
  · rw [if_pos hgb]
    have hc : (oneD b).cut nL (g : Int) = (0, oneD (b.take g)) := by
      unfold Dk.cut
      rw [if_pos (oneD_look b)]
      have e1 : lenOf (oneD b).files nL = b.length := by simp [oneD, lenOf, Dm.get, beqL]
      rw [e1, if_neg (by omega)]
      unfold Dk.change
      have h1 : (oneD b).fires = false := by simp [oneD, Dk.fires]
      rw [h1]
      simp [oneD, Dk.tick, upd, List.length_take, Nat.min_comm]
    rw [hc]
    simp
  · rw [if_neg hgb]
    have : g = b.length := by omega
    subst this
    simp
end
end Go.Proofs
namespace Go.Proofs
open Go.RowKit Go.Hp Go.Dm Go.Dr Go.Jn
set_option linter.unusedVariables false
set_option maxRecDepth 10000
/-- numbers of their own, as a piece of memory -/
def Ent.nums (v : Value) (l : List Nat) : Ent := ⟨(sblk v).toList, fun w => OC w 1 3 v l.length (l.map intV)⟩
theorem good_nums (v : Value) (l : List Nat) : (Ent.nums v l).Good := ⟨fun h hk => OC.keep h fun b hb => hk b (by simp [Ent.nums, hb]), fun h k hk => OC.lt h (by simpa [Ent.nums] using hk)⟩
section
variable {W w w' : World} {L : List Ent}
theorem Many.addNums {v : Value} {l : List Nat} (h : Many W w L) (ho : OC w' 1 3 v l.length (l.map intV)) (hc : Chg (fun _ => False) w w') (hn : ∀ b, sblk v = some b → w.heap.size ≤ b) : Many W w' (Ent.nums v l :: L) :=
  h.add hc ho (good_nums v l) fun k hk => hn k (by simpa [Ent.nums] using hk)
theorem Many.growNums {v v' : Value} {l l' : List Nat} (h : Many W w (Ent.nums v l :: L)) (ho : OC w' 1 3 v' l'.length (l'.map intV)) (hc : Chg (fun b => sblk v = some b) w w') (hb : ∀ b, sblk v' = some b → sblk v = some b ∨ w.heap.size ≤ b) : Many W w' (Ent.nums v' l' :: L) :=
  h.turn ho (good_nums v' l') ⟨hc.mono fun k hk => by simp [Ent.nums, hk], fun k hk => (hb k (by simpa [Ent.nums] using hk)).imp (fun h => by simp [Ent.nums, h]) id⟩
end
/-- where the records' frames begin, and where the last one ends -/
def atL (l : List (List UInt8)) : List Nat := (List.range (l.length + 1)).map (atN l)
theorem atL_len (l : List (List UInt8)) : (atL l).length = l.length + 1 := by simp [atL]
theorem atL_get {l : List (List UInt8)} {k : Nat} (h : k ≤ l.length) : (atL l)[k]? = some (atN l k) := by
  unfold atL
  rw [List.getElem?_map, List.getElem?_range (by omega)]
  rfl
theorem atL_nil : atL [] = [0] := by simp [atL, atN, fileOf]
theorem atL_snoc (l : List (List UInt8)) (x : List UInt8) : atL (l ++ [x]) = atL l ++ [atN l l.length + (x.length + 16)] := by
  have e : atL (l ++ [x]) = (List.range (l.length + 1)).map (atN (l ++ [x])) ++ [atN (l ++ [x]) (l.length + 1)] := by
    unfold atL
    rw [List.length_append, List.length_singleton, List.range_succ, List.map_append, List.map_singleton]
  rw [e, atN_succ (x := x) (by rw [List.getElem?_append_right (Nat.le_refl _), Nat.sub_self]; rfl), atN_snoc x (Nat.le_refl _)]
  congr 1
  exact List.map_congr_left fun k hk => atN_snoc x (by have := List.mem_range.1 hk; omega)
/-- how long the file is at most -/
theorem file_le {l : List (List UInt8)} {n : Nat} (h : ∀ x ∈ l, x.length ≤ n) : (fileOf 0 l).length ≤ (n + 16) * l.length := by
  induction l using snoc_ind with
  | h0 => simp [fileOf]
  | h1 l r ih =>
    have h1 := ih fun x hx => h x (by simp [hx])
    have h2 := h r (by simp)
    rw [fileOf_snoc, List.length_append, wrap_len, payload_len, List.length_append, List.length_singleton, Nat.mul_succ]
    omega
theorem RB.pre {w : World} {p : Option Addr} {n c m : Nat} {bs : List UInt8} (hb : RB w (.slice p n c) bs) (hm : m ≤ n) : RB w (.slice p (bs.take m).length c) (bs.take m) := by
  obtain ⟨p', c', he, hnc', hlen, hblk⟩ := hb
  simp only [Value.slice.injEq] at he
  obtain ⟨rfl, rfl, rfl⟩ := he
  have h2 : (bs.take m).length = m := by rw [List.length_take]; omega
  refine ⟨p, c, rfl, by rw [h2]; omega, by simp, fun hc => ?_⟩
  obtain ⟨b, off, arr, t, fz, rfl, hh, hx⟩ := hblk hc
  refine ⟨b, off, arr, t, fz, rfl, hh, fun i u hu => hx i u ?_⟩
  rw [List.map_take, List.getElem?_take] at hu
  split at hu
  · exact hu
  · cases hu
theorem RRows.pre {w : World} {p : Option Addr} {n c m : Nat} {ls : List LF} (h : RRows w (.slice p n c) ls) (hm : m ≤ n) : RRows w (.slice p m c) (ls.take m) := by
  refine ⟨?_, fun x hx => h.each x (List.mem_of_mem_take hx)⟩
  obtain ⟨p', c', he, hnc', hlen, hblk⟩ := h.rc
  simp only [Value.slice.injEq] at he
  obtain ⟨rfl, rfl, rfl⟩ := he
  have h2 : (ls.take m).length = m := by rw [List.length_take]; omega
  refine ⟨p, c, by rw [h2], by rw [h2]; omega, by simp, fun hc => ?_⟩
  obtain ⟨b, off, arr, t, fz, rfl, hh, hx⟩ := hblk hc
  refine ⟨b, off, arr, t, fz, rfl, hh, fun i u hu => hx i u ?_⟩
  rw [List.map_take, List.getElem?_take] at hu
  split at hu
  · exact hu
  · cases hu
end Go.Proofs
