/- JournalNumbers, proved: for all arguments whose values and letters are together at most 1048576 it answers true, and its arguments read as they did. Conditions: those of the statement. -/
import Derived.Test.YtaiaghfckhgnnaaGreatDoorT7
import Derived.Test.YtaiaghfckhgnnaaGreatDoorJ0
import Derived.Test.YtaiaghfckhgnnaaGreatDoorTie
import Derived.Test.YtaiaghfckhgnnaaGreatDoorCards
import Derived.SevenTiedAt
namespace Go.Proofs.YtaiaghfckhgnnaaGreatDoor.journalNumbers
open Go.ChangeShapes Go.WideShapes Go.ChangeAt Go.RowKit Go.Hp
set_option linter.unusedVariables false
set_option maxRecDepth 10000

theorem rd_ints : Tryz.prog.readableRec 24 = true ∧ 24 < Tryz.prog.types.size := ⟨by kernel_rfl, of_decide_eq_true (by kernel_rfl)⟩
theorem ints_of_trod {H : Type} {enc : TypeId × Value → H} {w : World} {base : Nat} {held : Bool} {v : Value} {fuel : Nat} {x : DataW H × List MemPlace} (h : DataW.trod enc Tryz.prog w base (fun _ => true) held fuel 24 [v] = some x) (hk : YtaiaghfckhgnnaaGreatDoor.Rows.uptoBulk x.1 ≤ 1048576) :
    ∃ vs : List Int, RC w 1 v vs.length (vs.map (Value.int .i64)) ∧ vs.length ≤ 1048576 := by
  rcases open_ints Tryz.underlying24 Tryz.underlying3 (by kernel_rfl) h with ⟨hv, rfl⟩ | ⟨a, len, cap, zs, hv, hb, hl, hm, hlen, rfl, hc, hwf⟩
  · obtain rfl : v = .slice none 0 0 := by simpa using hv
    exact ⟨[], rc_nil w 1, by simp⟩
  · obtain rfl : v = .slice (some a) len cap := by simpa using hv
    simp only [if_true] at hlen
    have hll : (zs.take len).length = len := by simp; omega
    refine ⟨zs.take len, ?_, ?_⟩
    · rw [hll]
      refine ⟨some a, cap, rfl, hl, by simp; omega, fun hcap => ?_⟩
      obtain ⟨hs, arr, t, fz, hh⟩ := block_of_cell (hc 0 (by omega))
      refine ⟨a.block, a.off, arr, t, fz, by cases a; simp only at hs; subst hs; rfl, hh, fun i u hu => ?_⟩
      rw [List.getElem?_map, List.getElem?_take] at hu
      split at hu
      · rename_i hi
        have hiz : i < zs.length := by omega
        rw [List.getElem?_eq_getElem hiz, Option.map_some, Option.some.injEq] at hu
        have h1 := hc i hiz
        rw [add_none hs, hcell_of hh] at h1
        rw [h1, ← hu]
        simp [List.getD, List.getElem?_eq_getElem hiz]
      · cases hu
    · have hge : ∀ l : List (DataW H), l.length ≤ YtaiaghfckhgnnaaGreatDoor.Rows.uptoBulkAll l := by
        intro l
        induction l with
        | nil => simp [YtaiaghfckhgnnaaGreatDoor.Rows.uptoBulkAll]
        | cons x r ih =>
          have h1 : 1 ≤ YtaiaghfckhgnnaaGreatDoor.Rows.uptoBulk x := by cases x with
            | lit l => cases l <;> simp [YtaiaghfckhgnnaaGreatDoor.Rows.uptoBulk]
            | _ => simp [YtaiaghfckhgnnaaGreatDoor.Rows.uptoBulk]
          simp only [YtaiaghfckhgnnaaGreatDoor.Rows.uptoBulkAll, List.length_cons]; omega
      have h1 := hge (lits (H := H) .i64 (zs.take len))
      have e : (lits (H := H) .i64 (zs.take len)).length = len := by simp [lits]; omega
      simp only [YtaiaghfckhgnnaaGreatDoor.Rows.uptoBulk] at hk
      rw [hll]
      omega
theorem contract (H : Type) (enc : TypeId × Value → H) (W : World) (args : Array Value) (ds gs : List (DataW H)) (before : List MemPlace)
    (hval : ∀ (j : Nat) t v, Tryz.f4.params[j]? = some t → args[j]? = some v → Value.okWide Tryz.prog W .any 0 t v)
    (hW : DataW.Whole enc Tryz.prog Tryz.f4.params.toList Rows.journalNumbersSpec.vars false W args.toList ds gs before) (hk : Rows.uptoSmall H (ds ++ gs) = true) (hL : laidMetH Tryz.prog laidL W) :
    Calls Tryz.prog 4 args W fun e W' => ∃ v, e = .returned v ∧ Rows.journalNumbersSpec.post enc Tryz.prog Tryz.f4 false true false false W args v W' := by
  have hW' := hW
  obtain ⟨p, q, hA0, hV, rfl, hfz, hnd⟩ := hW
  have hA : DataW.TrodAll enc Tryz.prog W 0 (fun _ => true) true Tryz.f4.params.toList args.toList ds p := hA0
  rw [Tryz.params4] at hA hval
  obtain ⟨v0, vs0, d0, ds0, p0, q0, hargs, rfl, rfl, h0, r0⟩ := trodAll_cons hA
  obtain ⟨v1, vs1, d1, ds1, p1, q1, rfl, rfl, rfl, h1, r1⟩ := trodAll_cons r0
  obtain ⟨rfl, rfl, rfl⟩ := trodAll_nil r1
  obtain rfl : args = #[v0, v1] := by cases args; simp_all
  obtain ⟨rfl, rfl⟩ := trodVars_none hV
  have hkb := bulk_bound hk
  obtain ⟨a0, len0, cap0, rfl⟩ := okWide_slice Tryz.underlying22 (hval 0 22 v0 rfl rfl)
  obtain ⟨fuel0, hy0⟩ := h0
  have hy0 : DataW.trod enc Tryz.prog W 0 (fun _ => true) true fuel0 22 [.slice a0 len0 cap0] = some (d0, p0) := hy0
  obtain ⟨ls0, hr0, hn0, hb0⟩ := rows_of_trod hy0 (Nat.le_trans (bulk_part (by simp)) hkb)
  obtain rfl : len0 = ls0.length := by obtain ⟨_, _, e, -⟩ := hr0.rc; simp only [Value.slice.injEq] at e; exact e.2.1
  obtain ⟨a1, len1, cap1, rfl⟩ := okWide_slice Tryz.underlying24 (hval 1 24 v1 rfl rfl)
  obtain ⟨fuel1, hy1⟩ := h1
  have hy1 : DataW.trod enc Tryz.prog W 0 (fun _ => true) true fuel1 24 [.slice a1 len1 cap1] = some (d1, p1) := hy1
  obtain ⟨vs1', hr1, hn1⟩ := ints_of_trod hy1 (Nat.le_trans (bulk_part (by simp)) hkb)
  obtain rfl : len1 = vs1'.length := by obtain ⟨_, _, e, -⟩ := hr1; simp only [Value.slice.injEq] at e; exact e.2.1
  have hwalk : Calls Tryz.prog 4 #[.slice a0 ls0.length cap0, .slice a1 vs1'.length cap1] W fun e w' => e = .returned (.bool true) ∧ Chg (fun _ => False) W w' := numbers_walk (gl_of_laid hL) hr0 hn0 hb0 hr1 hn1
  refine hwalk.mono fun e W' ⟨he, hc⟩ => ⟨_, he, law_post hW' rfl ⟨rfl, rfl, rfl⟩ (by kernel_rfl) Tryz.underlying4 laid_Tryz (fun t ht => ?_) hc⟩
  rw [Tryz.params4] at ht
  have ht : t = 22 ∨ t = 24 := by simpa using ht
  rcases ht with rfl | rfl
  · exact rd_rows
  · exact rd_ints

set_option maxRecDepth 100000 in
theorem lifted (os : Os) (started : os.Started) (H : Type) (enc : TypeId × Value → H) (F : Stop.Interp) :
    ReturnsInHanded {} Tryz.checked os 4 .any (fun w args => ((Rows.OpenSpec.upto Rows.journalNumbersSpec).pre enc Tryz.prog Tryz.f4 Rows.journalNumbersUptoRow.domain false w args ∧ laidMetH Tryz.prog laidL w) ∧ sizedMet enc Tryz.prog Tryz.f4 (Rows.OpenSpec.upto Rows.journalNumbersSpec) false w args)
      (((Rows.OpenSpec.upto Rows.journalNumbersSpec).at F).post enc Tryz.prog Tryz.f4 false true false false) := by
  refine returnsInHanded_of_cond_and (C := Tryz.checked) (s := Rows.OpenSpec.upto Rows.journalNumbersSpec) (k := Rows.uptoSmall) rfl (X := fun w _ => laidMetH Tryz.prog laidL w) (fun _ _ _ hh h => h.of_heap hh) own_Tryz started (by kernel_rfl) Tryz.func4
    (witness_cond_at (enc := enc) (C := Tryz.checked) (s := Rows.OpenSpec.upto Rows.journalNumbersSpec) (k := Rows.uptoSmall) rfl (X := fun w _ => laidMetH Tryz.prog laidL w) false (laidWorld os) #[.slice none 0 0, .slice none 0 0] 8 rfl (by kernel_rfl) (by kernel_rfl) (by kernel_rfl)
      (x := ([.nil, .nil], [], [])) (by kernel_rfl) rfl (by kernel_rfl) (by kernel_rfl) (laidWorld_met os _)) ?_
  intro W base args ds gs before hval hW hk hL
  refine contract H enc W args ds gs before (fun j t v h1 h2 => ?_) hW hk hL
  exact hval j t v h1 h2

theorem said : Rows.JournalNumbersUptoSaid :=
  OpenClaim.holds_of_cond 4 Tryz.f4 rfl rfl rfl rfl rfl rfl rfl ⟨rfl, rfl, rfl, rfl, rfl⟩ rfl rfl rfl rfl rfl (by kernel_rfl) Tryz.func4 (by kernel_rfl)
    (of_decide_eq_true (by kernel_rfl)) (by unfold Func.isWrapper; first | (rw [if_pos (by decide +kernel)]; kernel_rfl) | (rw [if_neg (by decide +kernel)]; exact ⟨rfl, rfl⟩))
    (fun os started H enc _ F => lifted os started H enc F)
/-- the tied card -/
theorem proved : Rows.JournalNumbersUptoCardSaid :=
  Claim7.holds_tied_plain_at .later [] [.handle, .data] true (true, "4e44327b26737b9a8168a64666d5789bee368c5eb82f51374182549a7f9e89d2") true
    said (fun _ h => by cases h) (by kernel_rfl) (fun _ h => by cases h) journalNumbersUpto_row_tie rfl ⟨rfl, rfl⟩ (by kernel_rfl) rfl
    (fun f fn hf hfn => by
      obtain rfl : f = 4 := Option.some.inj ((show Tryz.prog.funcNamed "redraft/redraftlaw12.JournalNumbers" = some 4 by kernel_rfl).symm.trans hf) |>.symm
      obtain rfl : fn = Tryz.f4 := (Option.some.inj (Tryz.func4.symm.trans hfn)).symm
      exact ⟨by kernel_rfl, fun j t ht => by
        rw [Tryz.params4] at ht
        have h3 : t = 22 ∨ t = 24 := by
          rcases j with _ | _ | j
          · exact .inl (by simpa using ht.symm)
          · exact .inr (by simpa using ht.symm)
          · simp at ht
        rcases h3 with rfl | rfl
        · exact (show Tryz.prog.wantsStandIn 22 = false by kernel_rfl)
        · exact (show Tryz.prog.wantsStandIn 24 = false by kernel_rfl)⟩)
    (by kernel_rfl)
end Go.Proofs.YtaiaghfckhgnnaaGreatDoor.journalNumbers
