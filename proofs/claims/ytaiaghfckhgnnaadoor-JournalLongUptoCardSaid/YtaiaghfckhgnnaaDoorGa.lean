/- JournalLong: a disk for lim bytes with records, plainly; number; an Append that is refused for its size; anew. Conditions: each sentence's own; the listed variables lie as they were laid. -/
import Derived.Test.YtaiaghfckhgnnaaDoorJR
import Derived.Test.YtaiaghfckhgnnaaDoorJg
namespace Go.Proofs
open Go.Dm Go.Jn
set_option linter.unusedVariables false
set_option linter.unusedSimpArgs false
/-- a disk for lim bytes that runs and is not armed, with the records hv, s of its bytes durable -/
structure FM (lim : Nat) (D : Dk) (hv : List (List UInt8)) (s : Nat) : Prop where
  lim_ : D.limit = lim
  up : D.down = false
  st : D.steps = 0
  fl : D.files = [] ∧ hv = [] ∧ s = 0 ∨ D.files = [⟨nL, fileOf 0 hv, s⟩]
  sl : s ≤ (fileOf 0 hv).length
  fit : (fileOf 0 hv).length ≤ lim
  sml : ∀ x ∈ hv, x.length ≤ 131068
section
variable {D : Dk} {hv : List (List UInt8)} {r : List UInt8} {s lim du : Nat}
theorem FM.start (lim : Nat) : FM lim ⟨lim, [], false, 0, 0⟩ [] 0 := ⟨rfl, rfl, rfl, .inl ⟨rfl, rfl, rfl⟩, Nat.zero_le _, Nat.zero_le _, by simp⟩
theorem FM.used (h : FM lim D hv s) : D.used = (fileOf 0 hv).length := by
  unfold Dk.used
  rcases h.fl with ⟨h1, h2, -⟩ | h1
  · rw [h1, h2]; rfl
  · rw [h1]; simp [total]
theorem FM.lk (h : FM lim D hv s) : D.look nL = if D.files = [] then 112 else 0 := by
  unfold Dk.look
  rw [h.up, if_neg (by simp), if_pos okL]
  rcases h.fl with ⟨h1, -⟩ | h1
  · rw [h1]; rfl
  · rw [h1]; simp [Dm.get, beqL]
theorem FM.size (h : FM lim D hv s) (h1 : D.files = [⟨nL, fileOf 0 hv, s⟩]) : D.size nL = ((fileOf 0 hv).length, s, 0) := by
  have hk := h.lk
  rw [if_neg (by rw [h1]; simp)] at hk
  unfold Dk.size
  rw [if_pos hk, h1]
  simp [lenOf, sureOf, Dm.get, beqL]
theorem FM.look (h : FM lim D hv s) (hdu : du ≤ hv.length) (hs : atN hv du ≤ s) : lookE D nL (endsOf hv) du = 0 := by
  unfold lookE
  rw [endsOf_end]
  rcases h.fl with ⟨h1, h2, -⟩ | h1
  · have hk := h.lk
    rw [if_pos h1] at hk
    unfold Dk.size
    rw [hk, h2]
    simp [fileOf]
  · rw [h.size h1, endN_file hdu]
    simp only [ne_eq, not_true_eq_false, false_or, if_false]
    rw [if_neg (by simp), if_neg (by omega)]
theorem FM.put (h : FM lim D hv s) (b : List UInt8) : putB nL b D.files = [⟨nL, fileOf 0 hv ++ b, s⟩] := by
  rcases h.fl with ⟨h1, h2, h3⟩ | h1
  · rw [h1, h2, h3]; simp [putB, Dm.get, ins, fileOf]
  · rw [h1]; simp [putB, Dm.get, beqL, upd]
theorem FM.app (h : FM lim D hv s) {b : List UInt8} (hf : (fileOf 0 hv).length + b.length ≤ lim) : D.append nL b = ((b.length, 0), { D with files := [⟨nL, fileOf 0 hv ++ b, s⟩] }) := by
  have hk := h.lk
  unfold Dk.append
  rw [hk, if_pos (by by_cases hd : D.files = [] <;> simp [hd])]
  simp only [h.used, h.lim_, h.put]
  rw [Nat.min_eq_left (by omega), List.take_of_length_le (by omega)]
  obtain ⟨lim, files, down, steps, keep⟩ := D
  obtain rfl : steps = 0 := h.st
  simp [Dk.fires, Dk.tick]
theorem FM.app_ok (h : FM lim D hv s) (hr : r.length ≤ 131068) (hf : (fileOf 0 hv).length + (r.length + 16) ≤ lim) :
    ∃ D1, D.append nL (jwrap (jpay hv.length r)) = ((r.length + 16, 0), D1) ∧ FM lim D1 (hv ++ [r]) s := by
  have hl : (jwrap (jpay hv.length r)).length = r.length + 16 := by rw [wrap_len, payload_len]
  have ha := h.app (b := jwrap (jpay hv.length r)) (by omega)
  rw [hl] at ha
  refine ⟨_, ha, ⟨h.lim_, h.up, h.st, .inr ?_, ?_, ?_, ?_⟩⟩
  · rw [fileOf_snoc]
  · rw [fileOf_snoc, List.length_append]; have := h.sl; omega
  · rw [fileOf_snoc, List.length_append, hl]; omega
  · intro x hx
    rcases List.mem_append.1 hx with hx | hx
    · exact h.sml x hx
    · obtain rfl : x = r := by simpa using hx
      exact hr
/-- bytes that are the frames of records, put into an empty disk -/
theorem FM.fill (hr : ∀ x ∈ hv, x.length ≤ 131068) (hf : (fileOf 0 hv).length ≤ lim) : ∃ D1, (⟨lim, [], false, 0, 0⟩ : Dk).append nL (fileOf 0 hv) = (((fileOf 0 hv).length, 0), D1) ∧ FM lim D1 hv 0 := by
  have ha := (FM.start lim).app (b := fileOf 0 hv) (by simpa [fileOf] using hf)
  have e : fileOf 0 [] ++ fileOf 0 hv = fileOf 0 hv := rfl
  rw [e] at ha
  exact ⟨_, ha, ⟨rfl, rfl, rfl, .inr rfl, Nat.zero_le _, hf, hr⟩⟩
theorem FM.syn (h : FM lim D hv s) (hne : hv ≠ []) : ∃ D2, D.sync nL = (0, D2) ∧ FM lim D2 hv (fileOf 0 hv).length := by
  have h1 : D.files = [⟨nL, fileOf 0 hv, s⟩] := h.fl.elim (fun h => absurd h.2.1 hne) id
  have hk := h.lk
  rw [if_neg (by rw [h1]; simp)] at hk
  refine ⟨{ D with files := [⟨nL, fileOf 0 hv, (fileOf 0 hv).length⟩] }, ?_, ⟨h.lim_, h.up, h.st, .inr rfl, Nat.le_refl _, h.fit, h.sml⟩⟩
  unfold Dk.sync Dk.change
  rw [if_pos hk]
  have hfi : D.fires = false := by unfold Dk.fires; simp [h.st]
  rw [hfi]
  simp [Dk.tick, h.st, h1, upd]
theorem FM.bytes (h : FM lim D hv s) : (bytesOf D.files nL).length = (fileOf 0 hv).length := by
  rcases h.fl with ⟨h1, h2, -⟩ | h1
  · rw [h1, h2]; rfl
  · rw [h1]; simp [bytesOf, Dm.get, beqL]
theorem FM.opened (h : FM lim D hv s) : ∃ D2, openR D nL = (hv, 0, 0, 0, D2) ∧ FM lim D2 hv (fileOf 0 hv).length := by
  rcases h.fl with ⟨h1, h2, h3⟩ | h1
  · have hk := h.lk
    rw [if_pos h1] at hk
    have hs : (D.size nL).2.2 = 112 := by unfold Dk.size; rw [if_neg (by rw [hk]; decide)]; exact hk
    refine ⟨D, ?_, ⟨h.lim_, h.up, h.st, .inl ⟨h1, h2, by rw [h2]; rfl⟩, Nat.le_refl _, h.fit, h.sml⟩⟩
    unfold openR
    rw [if_pos hs, h2]
  · have hsz := h.size h1
    have hk := h.lk
    rw [if_neg (by rw [h1]; simp)] at hk
    have e3 : bytesOf D.files nL = fileOf 0 hv := by rw [h1]; simp [bytesOf, Dm.get, beqL]
    by_cases hs : s < (fileOf 0 hv).length
    · have hne : hv ≠ [] := fun e => by rw [e] at hs; simp [fileOf] at hs
      obtain ⟨D2, hsy, hF⟩ := h.syn hne
      refine ⟨D2, ?_, hF⟩
      unfold openR
      rw [hsz, if_neg (by simp), if_neg (by simp), e3, parse_file h.sml]
      simp only [Nat.lt_irrefl, if_false, ne_eq, not_true_eq_false, if_pos hs, hsy, Nat.sub_self]
    · have hse : s = (fileOf 0 hv).length := by have := h.sl; omega
      refine ⟨D, ?_, ⟨h.lim_, h.up, h.st, .inr (by rw [h1, hse]), Nat.le_refl _, h.fit, h.sml⟩⟩
      unfold openR
      rw [hsz, if_neg (by simp), if_neg (by simp), e3, parse_file h.sml]
      simp [hse]
theorem FM.copy (h : FM lim D hv s) : FM lim ⟨lim, D.files, false, 0, 0⟩ hv s := ⟨rfl, rfl, rfl, h.fl, h.sl, h.fit, h.sml⟩
theorem FM.one (h : FM lim D hv s) : OneF D.files lim ∧ D.files.length ≤ 1 := by
  rcases h.fl with ⟨h1, h2, -⟩ | h1
  · exact ⟨.inl h1, by rw [h1]; exact Nat.zero_le _⟩
  · exact ⟨.inr ⟨_, _, h1, h.sl, h.fit⟩, by rw [h1]; exact Nat.le_refl _⟩
theorem FM.range (h : FM lim D hv s) {lo hi : Nat} (hlo : lo < hi) (hhi : hi ≤ hv.length) : rangeR D nL hv lo hi = ((hv.drop lo).take (hi - lo), 0, 0) := by
  have h1 : D.files = [⟨nL, fileOf 0 hv, s⟩] := h.fl.elim (fun h => by rw [h.2.1] at hhi; simp at hhi; omega) id
  have hk := h.lk
  rw [if_neg (by rw [h1]; simp)] at hk
  have hm : atN hv lo ≤ atN hv hi := atN_mono (Nat.le_of_lt hlo) hhi
  have hm2 : atN hv hi ≤ (fileOf 0 hv).length := by have := atN_mono hhi (Nat.le_refl _); rw [atN_all] at this; exact this
  have hrd : D.read nL (atN hv lo : Int) ((atN hv hi : Int) - (atN hv lo : Int)) = (((fileOf 0 hv).drop (atN hv lo)).take (atN hv hi - atN hv lo), 0) := by
    unfold Dk.read
    rw [if_pos hk, h1]
    have e1 : lenOf [(⟨nL, fileOf 0 hv, s⟩ : Fl)] nL = (fileOf 0 hv).length := by simp [lenOf, Dm.get, beqL]
    have e3 : bytesOf [(⟨nL, fileOf 0 hv, s⟩ : Fl)] nL = fileOf 0 hv := by simp [bytesOf, Dm.get, beqL]
    rw [e1, e3, if_neg (by omega), show ((atN hv lo : Int)).toNat = atN hv lo by omega, show ((atN hv hi : Int) - (atN hv lo : Int)).toNat = atN hv hi - atN hv lo by omega]
  unfold rangeR
  rw [hrd, if_neg (by simp)]
  have hgo : ∀ (n k : Nat), lo ≤ k → k + n ≤ hi → jgo (((fileOf 0 hv).drop (atN hv lo)).take (atN hv hi - atN hv lo)) hv lo n k = jgo ((fileOf 0 hv).drop (atN hv lo)) hv lo n k := by
    intro n
    induction n with
    | zero => intro k _ _; rfl
    | succ n ih =>
      intro k hk1 hk2
      have hmk : atN hv lo ≤ atN hv k := atN_mono hk1 (by omega)
      have hmk1 : atN hv (k + 1) ≤ atN hv hi := atN_mono (by omega) hhi
      have hkk : atN hv k ≤ atN hv (k + 1) := atN_mono (Nat.le_succ k) (by omega)
      have e : ((((fileOf 0 hv).drop (atN hv lo)).take (atN hv hi - atN hv lo)).drop (atN hv k - atN hv lo)).take (atN hv (k + 1) - atN hv k) = (((fileOf 0 hv).drop (atN hv lo)).drop (atN hv k - atN hv lo)).take (atN hv (k + 1) - atN hv k) := by
        rw [List.drop_take, List.take_take, Nat.min_eq_left (by omega)]
      rw [jgo, jgo, e, ih (k + 1) (by omega) (by omega)]
  rw [hgo (hi - lo) lo (Nat.le_refl _) (by omega), jgo_whole h.sml rfl (hi - lo) lo (Nat.le_refl _) (by omega)]
end
end Go.Proofs
namespace Go.Proofs
open Go.RowKit Go.Hp Go.Dm Go.Dr Go.Jn
set_option linter.unusedVariables false
set_option maxRecDepth 10000
theorem made_full (w : World) {n : Nat} (hn : n ≤ 1099511627776) : OB (w.alloc (.cells (madeCells #[.int .u8 0] n) 5)) 5 (.slice (some ⟨w.heap.size, 0, none⟩) n n) (List.replicate n 0) := by
  have h := OC_new w 1 5 (madeCells #[.int .u8 0] n) n n (Nat.le_refl _) (by unfold maxLen; omega) (by rw [size_madeCells, Nat.mul_one])
  have e : (madeCells #[.int .u8 0] n).toList.take (n * 1) = (List.replicate n (0 : UInt8)).map u8 := by
    rw [List.take_of_length_le (by rw [Array.length_toList, size_madeCells]; omega)]
    unfold madeCells
    rw [Array.toList_map, List.map_replicate]
    refine List.eq_replicate_iff.2 ⟨by simp, fun x hx => ?_⟩
    obtain ⟨i, hi, rfl⟩ := List.mem_map.1 hx
    have : i % 1 = 0 := Nat.mod_one i
    simp [this, u8]
  rw [e] at h
  have hl : (List.replicate n (0 : UInt8)).length = n := List.length_replicate
  show OC _ 1 _ _ (List.replicate n (0 : UInt8)).length _
  rw [hl]
  exact h
section
variable {w : World}
set_option maxHeartbeats 4000000 in
theorem number_any {k : Nat} (hk : k ≤ 2147483647) : Calls Tryd.prog 23 #[.int .i64 (k : Int)] w (FreshB w (be4 k)) := by
  have HL := Lib.hid hk
  have ik : (k : Int) ≤ 2147483647 := by omega
  have ik0 : (0 : Int) ≤ (k : Int) := by omega
  clear hk
  go_enter Tryd.func23, Tryd.ntmps23
  go_wp2
  go_ret
  refine ⟨.slice (some ⟨w.heap.size, 0, none⟩) 4 4, rfl, ?_⟩
  rw [be4_cells (by have := HL.out; omega)]
  exact ⟨ob_new w (be4 k) (by rw [be4_len]; unfold maxLen; decide), (Chg.refl _ w).alloc _, fun b hb => by
    have : w.heap.size = b := by simpa [sblk] using hb
    omega⟩
end
section
variable {W w : World} {L : List Ent} {d j : Nat} {H : Hs} {G : List Nat}
set_option maxHeartbeats 8000000 in
/-- an Append of too many bytes -/
theorem japp_big {n c : Nat} {p : Option Addr} (hg : Gl W) (hm : Many W w (Ent.house d j H G :: L)) (her : H.er = .nilIface) (hes : H.es.length ≤ 2147483647) (hn : 131068 < n) (hn2 : n ≤ 1099511627776) :
    Calls Tryd.prog 9 #[.pointer (some ⟨j, 0, none⟩), .slice p n c] w fun ev w' => ∃ b, ev = .returned (faultV b) ∧ Many W w' (Ent.box b (faultO nApp (H.es.length : Int) 92) :: Ent.house d j H G :: L) := by
  have hfa := fault_any (hg.chg hm.chg) nApp (H.es.length : Int) 92
  unfold errV at hfa
  rw [show ((92 : Nat) : Int) = 92 from rfl] at hfa
  have HFA := Lib.hid hfa
  obtain ⟨F, v, hr, hG⟩ := hm.first
  have g0 := hcell_of (hr.jrn).head 0
  have g1 := hcell_of (hr.jrn).head 1
  have g2 := hcell_of (hr.jrn).head 2
  have g3 := hcell_of (hr.jrn).head 3
  have g4 := hcell_of (hr.jrn).head 4
  simp only [List.getElem?_toArray, List.getElem?_cons_zero, List.getElem?_cons_succ] at g0 g1 g2 g3 g4
  rw [her] at g4
  obtain ⟨pv, cv, hpv, -⟩ := id hr.jrn.oc
  rw [hpv] at g2
  have HM := Lib.hid hm
  have iel : (H.es.length : Int) ≤ 2147483647 := by omega
  have inn : (131068 : Int) < (n : Int) := by omega
  have dnn : decide ((131068 : Int) < (n : Int)) = true := decide_eq_true inn
  clear hg hm her hes hfa hr hG hpv g0 g1 g3 hn hn2
  go_enter Tryd.func9, Tryd.ntmps9
  go_wp2_with (first | (go_at_call 26; refine stop ?_))
  refine go ?_
  refine HFA.out.mono ?_
  rintro ev w1 ⟨b, rfl, hbn, hb, c1⟩
  have m1 := HM.out.add (y := Ent.box b (faultO nApp (H.es.length : Int) 92)) c1 hb (good_box _ _) (fun k hk => by
    obtain rfl : k = b := by simpa [Ent.box] using hk
    exact hbn)
  have M1 := Lib.hid m1
  clear hbn hb c1 m1
  go_wp2
  go_ret
  exact ⟨b, rfl, M1.out⟩
end
section
variable {W w : World} {L : List Ent} {d j : Nat} {D : Dk} {es : List Nat} {du : Nat} {er : Value} {G : List Nat} {hv : List (List UInt8)} {s : Nat}
set_option maxHeartbeats 16000000 in
theorem anew_any (hg : Gl W) (hm : Many W w (Ent.house d j ⟨D, nL, es, du, er⟩ G :: L)) (hF : FM 1073741824 D hv s) :
    Calls Tryd.prog 20 #[.pointer (some ⟨d, 0, none⟩)] w fun e w' => ∃ rv ls, e = .returned (.tuple #[rv, .bool true]) ∧ ls.map LF.bytes = hv ∧ Many W w' (Ent.recs rv ls :: Ent.house d j ⟨D, nL, es, du, er⟩ G :: L) := by
  obtain ⟨F1, v1, hraw1, hG1⟩ := hm.first
  obtain ⟨hone, hfl1⟩ := hF.one
  have hfa := files_any (show D.files.length ≤ _ by omega) hraw1.disk
  have HFA := Lib.hid hfa
  have HP := Lib.hid (And.intro hg (And.intro hF (And.intro hone hm)))
  clear hg hm hF hraw1 hG1 hone hfl1 hfa
  go_enter Tryd.func20, Tryd.ntmps20
  go_wp2_with (first | (go_at_call 40; refine stop ?_))
  refine go ?_
  refine HFA.out.mono ?_
  rintro e w4 ⟨vf, lf, rfl, hf1, hf2, hf3, c4⟩
  obtain ⟨pf, cf, rfl, -⟩ := id hf1.sl
  have m2 := HP.out.2.2.2.filesOf hf1 hf3 c4
  obtain ⟨hgi, hfi⟩ := HP.out.2.2.1.given hf1 hf2 (by decide)
  have hld := load_any (n := 1073741824) (by decide) hgi
  have hda := HP.out.2.2.1.load (by decide)
  rw [hfi, hda.1] at hld
  simp only [hda.2, show ((1073741824 : Nat) : Int) = 1073741824 from rfl] at hld
  have HLD := Lib.hid hld
  have M2 := Lib.hid m2
  clear hf1 hf2 hf3 c4 m2 hgi hfi hld hda
  go_wp2_with (first | (go_at_call 39; refine stop ?_))
  refine go ?_
  refine HLD.out.mono ?_
  rintro e w10 (⟨h, -⟩ | ⟨-, d2, F10, rfl, h10, v10⟩)
  case inl => exact absurd rfl h
  have m3 := M2.out.addDisk h10 v10
  obtain ⟨D2, ho, hF2⟩ := HP.out.2.1.copy.opened
  have hby := HP.out.2.1.copy.bytes
  have hfit := HP.out.2.1.fit
  have hop := open_any HP.out.1 m3 (show nL.size ≤ maxLen by decide) (by rw [hby]; omega) ho
  have HOP := Lib.hid hop
  have hcl := count_le hv 0
  have HCL : Hid (hv.length ≤ 1073741824) := Lib.hid (by omega)
  clear h10 v10 m3 ho hF2 hby hfit hop hcl
  go_wp2_with (first | (go_at_call 7; refine stop ?_))
  refine go ?_
  refine HOP.out.mono ?_
  rintro e w11 (⟨-, j3, G3, rv, ls, rfl, hls, m4⟩ | ⟨h, -⟩)
  case inr => exact absurd rfl h
  have hrec : Recs w11 rv ls := m4.get (x := Ent.recs rv ls) (by simp)
  obtain ⟨pr, cr, rfl, -⟩ := id hrec.oc
  obtain ⟨N, hN⟩ : ∃ N, N = ls.length := ⟨_, rfl⟩
  have hNl : hv.length = N := by rw [hN, ← hls, List.length_map]
  obtain ⟨F4, v4, hraw4, hG4⟩ := m4.first
  have hle := jlen_any hraw4.jrn
  have hdu := jdurable_any hraw4.jrn
  simp only [endsOf_len, hNl] at hle hdu
  have iN : (N : Int) ≤ 1073741824 := by have := HCL.out; omega
  have HLE := Lib.hid hle
  have HDU := Lib.hid hdu
  have M4 := Lib.hid (And.intro m4 hls)
  rw [← hN] at M4 ⊢
  clear hrec hN hNl hraw4 hG4 hle hdu hls m4
  (try simp only [show ((0 : Nat) : Int) = 0 from rfl])
  go_wp2_with (first | (go_at_call 13; refine HLE.out.mono ?_; rintro e w' ⟨rfl, rfl⟩) | (go_at_call 14; refine HDU.out.mono ?_; rintro e w' ⟨rfl, rfl⟩))
  go_ret2
  have hm := Many.sub M4.out.1 (.cons _ (.cons_cons _ (.cons _ (.cons_cons _ (List.Sublist.refl _)))))
  first
  | exact ⟨_, by simp, ls, M4.out.2, hm⟩
  | exact ⟨_, ls, by simp, M4.out.2, hm⟩
end
end Go.Proofs
