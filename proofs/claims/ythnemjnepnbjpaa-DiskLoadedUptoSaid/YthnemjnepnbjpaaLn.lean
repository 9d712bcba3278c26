/- Files of a disk, loaded into another one: plainly; and as they lie. Conditions: each law's own. -/
import Derived.Test.YthnemjnepnbjpaaLc
import Derived.Test.YthnemjnepnbjpaaMy
import Derived.Test.YthnemjnepnbjpaaPa
namespace Go.Proofs
open Go.RowKit Go.Hp Go.Dm Go.Dr
set_option linter.unusedVariables false

def NamesOk (l : List Fl) : Prop := ∀ f ∈ l, okName f.name = true
section
variable {D : Dk} {l : List Fl}
theorem names_upd (h : NamesOk l) {nm : ByteArray} {g : Fl → Fl} (hg : ∀ f, (g f).name = f.name) : NamesOk (upd nm g l) := fun f hf => by
  obtain ⟨x, hx, rfl⟩ := List.mem_map.1 hf

  split
  · rw [hg]; exact h x hx
  · exact h x hx
theorem names_del (h : NamesOk l) (nm : ByteArray) : NamesOk (del nm l) := fun f hf => h f (List.mem_filter.1 hf).1
theorem names_lose (h : NamesOk l) (k : Nat) : NamesOk (loseL k l) := fun f hf => by
  obtain ⟨x, hx, hs⟩ := List.mem_filterMap.1 hf
  rw [surv_name hs]; exact h x hx
theorem look_okName {nm : ByteArray} (h : D.look nm = 0 ∨ D.look nm = 112) : okName nm = true := by
  unfold Dk.look at h
  by_cases hd : D.down = true
  · rw [if_pos hd] at h; simp at h
  · rw [if_neg hd] at h
    by_cases hk : okName nm = true
    · exact hk
    · rw [if_neg hk] at h; simp at h
theorem names_putB (h : NamesOk l) {nm : ByteArray} (hn : okName nm = true) (b : List UInt8) : NamesOk (putB nm b l) := by
  unfold putB
  cases Dm.get l nm with
  | some f => refine names_upd h fun f => ?_; rfl
  | none => intro f hf; rcases List.mem_cons.1 ((ins_perm _ l).subset hf) with rfl | hf; exact hn; exact h f hf
theorem names_change (h : NamesOk D.files) {g : List Fl → List Fl} (hg : NamesOk (g D.files)) : NamesOk (D.change g).2.files := by
  unfold Dk.change
  by_cases hf : D.fires = true
  · rw [if_pos hf]; exact names_lose h _
  · rw [if_neg hf]; exact hg
theorem names_does (h : NamesOk D.files) (o : OpP) : NamesOk (Dk.does D o).2.files := by
  unfold Dk.does
  by_cases h1 : o.kind = 1
  · rw [if_pos h1]
    by_cases hl : D.look o.name = 0 ∨ D.look o.name = 112
    · rw [append_eq hl rfl]
      have := names_putB h (look_okName hl) (o.b.take (min o.b.length (D.limit - D.used)))
      split
      · exact names_lose this _
      · exact this
    · have e : D.append o.name o.b = ((0, D.look o.name), D) := by unfold Dk.append; rw [if_neg hl]
      rw [e]; exact h
  rw [if_neg h1]
  by_cases h2 : o.kind = 2
  · rw [if_pos h2]
    unfold Dk.sync
    split
    · exact names_change h (names_upd h fun f => rfl)
    · exact h
  rw [if_neg h2]
  by_cases h3 : o.kind = 3
  · rw [if_pos h3]
    unfold Dk.cut
    split
    · split
      · exact h
      · exact names_change h (names_upd h fun f => rfl)
    · exact h
  rw [if_neg h3]
  by_cases h4 : o.kind = 4
  · rw [if_pos h4]
    unfold Dk.remove
    split
    · exact names_change h (names_del h _)
    · exact h
  rw [if_neg h4]
  by_cases h5 : o.kind = 5
  · rw [if_pos h5]; exact h
  rw [if_neg h5]
  by_cases h6 : o.kind = 6
  · rw [if_pos h6]; exact h
  rw [if_neg h6]
  by_cases h7 : o.kind = 7
  · rw [if_pos h7]; exact h
  rw [if_neg h7]
  by_cases h8 : o.kind = 8
  · rw [if_pos h8]
    unfold Dk.arm
    split
    · exact h
    · split
      · exact h
      · exact h
  rw [if_neg h8]
  by_cases h9 : o.kind = 9
  · rw [if_pos h9]
    unfold Dk.crash
    split
    · exact h
    · split
      · exact h
      · exact names_lose h _
  rw [if_neg h9]
  by_cases h10 : o.kind = 10
  · rw [if_pos h10]; exact h
  rw [if_neg h10]
  by_cases h11 : o.kind = 11
  · rw [if_pos h11]
    unfold Dk.turn
    split
    · split
      · exact h
      · exact names_upd h fun f => rfl
    · exact h
  rw [if_neg h11]
  exact h

/-- a file as it is handed in again -/
def flFi (f : Fl) : FI := ⟨f.name, f.bytes, (f.sure : Int)⟩
theorem fi_fl (f : Fl) : (flFi f).fl = f := by simp [flFi, FI.fl]
theorem ldGo_all : ∀ (l acc : List Fl), ((acc ++ l).map (·.name)).Nodup → NamesOk l → (∀ f ∈ l, f.sure ≤ f.bytes.length) → ldGo acc (l.map flFi) = (0, acc ++ l)
  | [], acc, _, _, _ => by simp [ldGo]
  | f :: l, acc, hn, hk, hs => by
    have he : ldErr acc (flFi f) = 0 := by
      unfold ldErr
      rw [if_pos (show okName (flFi f).name = true from hk f (by simp))]
      have hg : Dm.get acc (flFi f).name = none := by
        unfold Dm.get
        rw [List.find?_eq_none]
        intro g hg e
        rw [List.map_append, List.nodup_append] at hn
        exact hn.2.2 g.name (List.mem_map_of_mem hg) f.name (by simp) ((MapKept.bytes_beq _ _).1 e)
      rw [hg]
      have := hs f (by simp)
      exact if_neg (by simp only [flFi]; omega)
    rw [List.map_cons, ldGo, if_pos he, fi_fl, ldGo_all l (acc ++ [f]) (by simpa using hn) (fun g hg => hk g (by simp [hg])) (fun g hg => hs g (by simp [hg]))]
    simp
/-- the disk that is made of a disk's files -/
theorem ld_again (ok : D.Ok) (hk : NamesOk D.files) : ldAll (D.limit : Int) (D.files.map flFi) = (0, D.files) ∧ sortL D.files = D.files := by
  have h := ldGo_all D.files [] (by simpa using ok.sorted.nodup) hk ok.sure
  refine ⟨ldAll_ok ok.limit h ok.used, sorted_unique (sortL_sorted ok.sorted.nodup) ok.sorted (sortL_perm _)⟩
end

def LF.li (x : LF) : LI := ⟨x.name, x.p, x.cap, x.bytes, (x.sure : Int)⟩
theorem FilesAt.given {w : World} {v : Value} {l : List LF} {D : Dk} (h : FilesAt w v l) (hl : l.map LF.fl = D.files) (ok : D.Ok) (hk : NamesOk D.files) (hN : l.length ≤ 1048576) : IFiles w v (l.map LF.li) := by
  have hT : total (l.map LF.fl) ≤ 1099511627776 := by rw [hl]; exact Nat.le_trans ok.used ok.limit
  refine ⟨?_, fun y hy => ?_, by simpa using hN, ?_⟩
  · rw [List.length_map, List.flatMap_map]
    exact h.sl.rc
  · obtain ⟨x, hx, rfl⟩ := List.mem_map.1 hy
    have hxf : x.fl ∈ D.files := by rw [← hl]; exact List.mem_map_of_mem hx
    have h1 : okName x.name = true := hk x.fl hxf
    have h2 : x.sure ≤ x.bytes.length := ok.sure x.fl hxf
    have h3 : x.bytes.length ≤ 1099511627776 := Nat.le_trans (get_le (get_of_mem (by rw [hl]; exact ok.sorted.nodup) (List.mem_map_of_mem hx))) hT
    have ho := h.each x hx
    obtain ⟨p, c, e, hle, -⟩ := id ho
    obtain ⟨-, rfl⟩ : x.p = p ∧ x.cap = c := by simpa [LF.sv] using e
    refine ⟨⟨?_, h3, hle, ?_, ?_⟩, ho.rb⟩
    · show x.name.size ≤ maxLen
      unfold okName at h1
      simp only [Bool.and_eq_true, decide_eq_true_eq] at h1
      unfold maxLen; omega
    · show -9223372036854775808 ≤ (x.sure : Int); omega
    · show (x.sure : Int) ≤ 9223372036854775807; omega
  · rw [List.map_map]
    exact Nat.le_trans (Nat.le_of_eq (congrArg total (List.map_congr_left fun x _ => by simp [LF.li, LI.fi, FI.fl, LF.fl]))) hT
theorem li_fi (l : List LF) : (l.map LF.li).map LI.fi = (l.map LF.fl).map flFi := by
  rw [List.map_map, List.map_map]; rfl
end Go.Proofs
