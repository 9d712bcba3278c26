/- An argument's bytes: what the reading of a []byte gives. Conditions: the reading reads it. -/
import Derived.Test.YtaiaghfckhgnnaaDoorDl
import Derived.Test.YtaiaghfckhgnnaaDoorRows
import Derived.Lib.SmallJoins
import Derived.Deep.Fields
import Derived.ChangeSlices
namespace Go.Proofs
open Go.RowKit Go.Hp Go.ChangeShapes Go.WideShapes Go.Deep
set_option linter.unusedVariables false

theorem rc_nil (w : World) (k : Nat) : RC w k (.slice none 0 0) 0 [] := ⟨none, 0, rfl, Nat.le_refl _, by simp, fun h => absurd rfl h⟩

theorem add_none {a : Addr} (h : a.spot = none) (i : Nat) : a.add i = ⟨a.block, a.off + i, none⟩ := by
  cases a; simp only at h; subst h
  unfold Addr.add
  split
  · rename_i h0; subst h0; rfl
  · rfl

/-- a cell of an address: its block, and that the address is plain -/
theorem block_of_cell {w : World} {a : Addr} {u : Value} (h : w.cell? (a.add 0) = some u) : a.spot = none ∧ ∃ arr t fz, w.heap[a.block]? = some (.cells arr t fz) := by
  have ha0 : a.add 0 = a := by unfold Addr.add; rw [if_pos rfl]
  rw [ha0] at h
  have ha : a.spot = none := by
    cases hq : a.spot with
    | none => rfl
    | some x => unfold World.cell? at h; split at h <;> simp [hq] at h
  refine ⟨ha, ?_⟩
  have ea : a = ⟨a.block, a.off, none⟩ := by cases a; simp only at ha; subst ha; rfl
  rw [ea] at h
  obtain ⟨c, e, fr, hb, -⟩ := Go.Sort.cells_of_cell? h
  exact ⟨c, e, fr, hb⟩

section
variable {H : Type} {enc : TypeId × Value → H} {w : World} {base : Nat} {held : Bool}

theorem rb_of_trod {v : Value} {fuel : Nat} {x : DataW H × List MemPlace} (h : DataW.trod enc Tryd.prog w base (fun _ => true) held fuel 33 [v] = some x) :
    ∃ l : List UInt8, RB w v l ∧ l.length + 1 ≤ YtaiaghfckhgnnaaDoor.Rows.uptoBulk x.1 := by
  rcases open_ints Tryd.underlying33 Tryd.underlying5 (by kernel_rfl) h with ⟨hv, rfl⟩ | ⟨a, len, cap, zs, hv, hb, hl, hm, hlen, rfl, hc, hwf⟩
  · obtain rfl : v = .slice none 0 0 := by simpa using hv
    exact ⟨[], rc_nil w 1, by simp [YtaiaghfckhgnnaaDoor.Rows.uptoBulk]⟩
  · obtain rfl : v = .slice (some a) len cap := by simpa using hv
    simp only [if_true] at hlen
    refine ⟨(zs.take len).map fun n => UInt8.ofNat n.toNat, ?_, ?_⟩
    · have hll : ((zs.take len).map fun n => UInt8.ofNat n.toNat).length = len := by simp; omega
      unfold RB
      rw [hll]
      refine ⟨some a, cap, rfl, hl, by simp; omega, fun hcap => ?_⟩
      obtain ⟨hs, arr, t, fz, hh⟩ := block_of_cell (hc 0 (by omega))
      refine ⟨a.block, a.off, arr, t, fz, by cases a; simp only at hs; subst hs; rfl, hh, fun i u hu => ?_⟩
      rw [List.map_map, List.getElem?_map, List.getElem?_take] at hu
      split at hu
      · rename_i hi
        have hiz : i < zs.length := by omega
        rw [List.getElem?_eq_getElem hiz, Option.map_some, Option.some.injEq] at hu
        have h1 := hc i hiz
        rw [add_none hs, hcell_of hh] at h1
        rw [h1, ← hu]
        have h2 := hwf (zs[i]) (List.getElem_mem hiz)
        have h3 : 0 ≤ zs[i] ∧ zs[i] ≤ 255 := by simpa [Lit.wf, IntKind.min, IntKind.max, IntKind.signed, IntKind.bits] using h2
        have h4 : zs.getD i 0 = zs[i] := by simp [List.getD, List.getElem?_eq_getElem hiz]
        rw [h4]
        simp only [Function.comp, u8, UInt8.toNat_ofNat']
        congr 2
        omega
      · cases hu
    · have : YtaiaghfckhgnnaaDoor.Rows.uptoBulk (H := H) (.slice (lits .u8 (zs.take len)) (lits .u8 (zs.drop len))) ≥ (lits (H := H) .u8 (zs.take len)).length + 1 := by
        simp only [YtaiaghfckhgnnaaDoor.Rows.uptoBulk]
        have hge : ∀ l : List (DataW H), l.length ≤ YtaiaghfckhgnnaaDoor.Rows.uptoBulkAll l := by
          intro l
          induction l with
          | nil => simp [YtaiaghfckhgnnaaDoor.Rows.uptoBulkAll]
          | cons x r ih =>
            have h1 : 1 ≤ YtaiaghfckhgnnaaDoor.Rows.uptoBulk x := by cases x with
              | lit l => cases l <;> simp [YtaiaghfckhgnnaaDoor.Rows.uptoBulk]
              | _ => simp [YtaiaghfckhgnnaaDoor.Rows.uptoBulk]
            simp only [YtaiaghfckhgnnaaDoor.Rows.uptoBulkAll, List.length_cons]; omega
        have := hge (lits (H := H) .u8 (zs.take len))
        omega
      have e : (lits (H := H) .u8 (zs.take len)).length = len := by simp [lits]; omega
      simp only [List.length_map, List.length_take]
      omega
end
end Go.Proofs
