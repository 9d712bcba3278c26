/- A journal as it lies beside its disk; end, size, Len, Durable, Err, look. Conditions: it is open (no error); each call's own. -/
import Derived.Test.YtaiaghfckhgnnaaDoorJq
import Derived.Test.YtaiaghfckhgnnaaDoorJt
namespace Go.Proofs
open Go.RowKit Go.Hp Go.Dm Go.Dr Go.Jn
set_option linter.unusedVariables false
set_option maxRecDepth 10000

/-- an open journal, plainly: its disk, its file's name, where each record's frame ends, how many are durable -/
structure Hs where
  D : Dk
  nm : ByteArray
  es : List Nat
  du : Nat
  er : Value
def intV (n : Nat) : Value := .int .i64 (n : Int)
structure JAt (w : World) (j d : Nat) (v : Value) (nm : ByteArray) (es : List Nat) (du : Nat) (er : Value) : Prop where
  head : w.heap[j]? = some (.cells #[.pointer (some ⟨d, 0, none⟩), .string nm, v, .int .i64 (du : Int), er] 60)
  oc : OC w 1 3 v es.length (es.map intV)
  ne : sblk v ≠ some j
def jbl (j : Nat) (v : Value) : List Nat := j :: (sblk v).toList
theorem mem_jbl {j k : Nat} {v : Value} : k ∈ jbl j v ↔ k = j ∨ sblk v = some k := by simp [jbl]
theorem JAt.keep {w w' : World} {j d : Nat} {v : Value} {nm : ByteArray} {es : List Nat} {du : Nat} {er : Value} (h : JAt w j d v nm es du er) (hk : ∀ k ∈ jbl j v, w'.heap[k]? = w.heap[k]?) : JAt w' j d v nm es du er :=
  ⟨(hk j (mem_jbl.2 (.inl rfl))).trans h.head, OC.keep h.oc fun b hb => hk b (mem_jbl.2 (.inr hb)), h.ne⟩
theorem JAt.lt {w : World} {j d : Nat} {v : Value} {nm : ByteArray} {es : List Nat} {du : Nat} {er : Value} (h : JAt w j d v nm es du er) : ∀ k ∈ jbl j v, k < w.heap.size := fun k hk => by
  rcases mem_jbl.1 hk with rfl | hk
  · exact hlt_of h.head
  · exact OC.lt h.oc hk
theorem JAt.drew {w : World} {j d : Nat} {v : Value} {nm : ByteArray} {es : List Nat} {du : Nat} {er : Value} (h : JAt w j d v nm es du er) : JAt w.drew j d v nm es du er := h.keep fun _ _ => rfl
structure HRaw (w : World) (d j : Nat) (H : Hs) (F : List Nat) (v : Value) : Prop where
  disk : DRep w d H.D F
  jrn : JAt w j d v H.nm H.es H.du H.er
  off : ∀ k ∈ jbl j v, k ∉ F
def HRep (w : World) (d j : Nat) (H : Hs) (G : List Nat) : Prop := ∃ F v, HRaw w d j H F v ∧ G = F ++ jbl j v
def HLeft (w : World) (d j : Nat) (G : List Nat) (H : Hs) (w' : World) : Prop := ∃ G', HRep w' d j H G' ∧ Ev G G' w w'
section
variable {w w' : World} {d j : Nat} {H : Hs} {F : List Nat} {v : Value}
/-- a call on the disk leaves the journal as it lay -/
theorem HRaw.left {D' : Dk} (h : HRaw w d j H F v) (hl : Left w d F D' w') : ∃ F', HRaw w' d j { H with D := D' } F' v ∧ Ev (F ++ jbl j v) (F' ++ jbl j v) w w' := by
  obtain ⟨F', h1, h2⟩ := hl
  refine ⟨F', ⟨h1, h.jrn.keep fun k hk => h2.block (h.jrn.lt k hk) (h.off k hk), fun k hk hk' => ?_⟩, ⟨h2.chg.mono fun k hk => .inl (List.mem_append.2 (.inl hk)), fun k hk => ?_⟩⟩
  · rcases h2.new k hk' with h3 | h3
    · exact h.off k hk h3
    · have := h.jrn.lt k hk; omega
  · rcases List.mem_append.1 hk with hk | hk
    · exact (h2.new k hk).imp (fun h => List.mem_append.2 (.inl h)) id
    · exact .inl (List.mem_append.2 (.inr hk))
theorem HRaw.quiet (h : HRaw w d j H F v) (hc : Chg (fun _ => False) w w') : HRaw w' d j H F v :=
  ⟨h.disk.keep fun k hk => hc.block k (h.disk.lt k hk) (fun h => h), h.jrn.keep fun k hk => hc.block k (h.jrn.lt k hk) (fun h => h), h.off⟩
theorem HRep.keep {G : List Nat} (h : HRep w d j H G) (hk : ∀ k ∈ G, w'.heap[k]? = w.heap[k]?) : HRep w' d j H G := by
  obtain ⟨F, v, h, rfl⟩ := h
  exact ⟨F, v, ⟨h.disk.keep fun k hk' => hk k (List.mem_append.2 (.inl hk')), h.jrn.keep fun k hk' => hk k (List.mem_append.2 (.inr hk')), h.off⟩, rfl⟩
theorem HRep.lt {G : List Nat} (h : HRep w d j H G) : ∀ k ∈ G, k < w.heap.size := fun k hk => by
  obtain ⟨F, v, h, rfl⟩ := h
  rcases List.mem_append.1 hk with hk | hk
  · exact h.disk.lt k hk
  · exact h.jrn.lt k hk
def Ent.house (d j : Nat) (H : Hs) (G : List Nat) : Ent := ⟨G, fun w => HRep w d j H G⟩
theorem good_house (d j : Nat) (H : Hs) (G : List Nat) : (Ent.house d j H G).Good := ⟨fun h hk => h.keep hk, fun h => h.lt⟩
theorem Many.housed {W : World} {L : List Ent} {H' : Hs} {G : List Nat} (h : Many W w (Ent.house d j H G :: L)) (hl : HLeft w d j G H' w') : ∃ G', Many W w' (Ent.house d j H' G' :: L) := by
  obtain ⟨G', h1, h2⟩ := hl
  exact ⟨G', h.turn (y := Ent.house d j H' G') h1 (good_house _ _ _ _) h2⟩

/-- where the first k records' frames end -/
def endN (es : List Nat) (k : Nat) : Nat := if k = 0 then 0 else es.getD (k - 1) 0
variable {nm : ByteArray} {es : List Nat} {du : Nat} {er : Value}
set_option maxHeartbeats 4000000 in
theorem end_any (h : JAt w j d v nm es du er) {k : Nat} (hk : k ≤ es.length) (hes : es.length ≤ 1099511627776) :
    Calls Tryd.prog 44 #[.pointer (some ⟨j, 0, none⟩), .int .i64 (k : Int)] w fun e w' => e = .returned (.int .i64 (endN es k : Int)) ∧ w = w' := by
  have g0 := hcell_of (h).head 0
  have g1 := hcell_of (h).head 1
  have g2 := hcell_of (h).head 2
  have g3 := hcell_of (h).head 3
  have g4 := hcell_of (h).head 4
  simp only [List.getElem?_toArray, List.getElem?_cons_zero, List.getElem?_cons_succ] at g0 g1 g2 g3 g4
  have HJ := Lib.hid h
  have ik : (k : Int) ≤ 1099511627776 := by omega
  have ikl : (k : Int) ≤ (es.length : Int) := by omega
  by_cases hk0 : k = 0
  · subst hk0
    clear h g0 g1 g2 g3 g4
    go_enter Tryd.func44, Tryd.ntmps44
    go_wp2
    go_ret
    exact ⟨rfl, rfl⟩
  · have h1 : ((k : Int) == 0) = false := by rw [beq_eq_false_iff_ne]; omega
    obtain ⟨pv, cv, rfl, hnc, -⟩ := id h.oc
    obtain ⟨b, rfl⟩ := OC.blk1 h.oc (by omega)
    have hget : es[k - 1]? = some (es.getD (k - 1) 0) := by rw [List.getD, List.getElem?_eq_getElem (show k - 1 < es.length by omega)]; rfl
    have hce := (OC.atk h.oc (j := k - 1) (u := intV (es.getD (k - 1) 0)) (by rw [List.getElem?_map, hget]; rfl)).1
    have hen : endN es k = es.getD (k - 1) 0 := by unfold endN; rw [if_neg hk0]
    rw [hen]
    obtain ⟨q, hq⟩ : ∃ q, q = k - 1 := ⟨_, rfl⟩
    have hkq : (k : Int) - 1 = (q : Int) := by omega
    have hq0 : (0 : Int) ≤ (q : Int) := by omega
    have hql : (q : Int) < (es.length : Int) := by omega
    have hnc2 : (es.length : Int) ≤ (cv : Int) := by omega
    rw [← hq] at hce ⊢
    unfold intV at hce
    have HQ := Lib.hid (And.intro hq hk0)
    clear h g0 g1 g3 g4 hget hen hq hk0 hnc
    go_enter Tryd.func44, Tryd.ntmps44
    go_wp2
    go_ret
    exact ⟨rfl, rfl⟩
theorem jsize_any (h : JAt w j d v nm es du er) (hes : es.length ≤ 1099511627776) :
    Calls Tryd.prog 32 #[.pointer (some ⟨j, 0, none⟩)] w fun e w' => e = .returned (.int .i64 (endN es es.length : Int)) ∧ w = w' := by
  have g0 := hcell_of (h).head 0
  have g1 := hcell_of (h).head 1
  have g2 := hcell_of (h).head 2
  have g3 := hcell_of (h).head 3
  have g4 := hcell_of (h).head 4
  simp only [List.getElem?_toArray, List.getElem?_cons_zero, List.getElem?_cons_succ] at g0 g1 g2 g3 g4
  have HE := Lib.hid (end_any h (Nat.le_refl _) hes)
  obtain ⟨pv, cv, rfl, -⟩ := id h.oc
  clear h g0 g1 g3 g4
  go_enter Tryd.func32, Tryd.ntmps32
  go_wp2_with (first | (go_at_call 44; refine HE.out.mono ?_; rintro e w' ⟨rfl, rfl⟩))
  go_ret
  exact ⟨rfl, rfl⟩
theorem jlen_any (h : JAt w j d v nm es du er) :
    Calls Tryd.prog 13 #[.pointer (some ⟨j, 0, none⟩)] w fun e w' => e = .returned (.int .i64 (es.length : Int)) ∧ w = w' := by
  have g0 := hcell_of (h).head 0
  have g1 := hcell_of (h).head 1
  have g2 := hcell_of (h).head 2
  have g3 := hcell_of (h).head 3
  have g4 := hcell_of (h).head 4
  simp only [List.getElem?_toArray, List.getElem?_cons_zero, List.getElem?_cons_succ] at g0 g1 g2 g3 g4
  obtain ⟨pv, cv, rfl, -⟩ := id h.oc
  clear h g0 g1 g3 g4
  go_enter Tryd.func13, Tryd.ntmps13
  go_wp2
  go_ret
  exact ⟨rfl, rfl⟩
theorem jdurable_any (h : JAt w j d v nm es du er) :
    Calls Tryd.prog 14 #[.pointer (some ⟨j, 0, none⟩)] w fun e w' => e = .returned (.int .i64 (du : Int)) ∧ w = w' := by
  have g0 := hcell_of (h).head 0
  have g1 := hcell_of (h).head 1
  have g2 := hcell_of (h).head 2
  have g3 := hcell_of (h).head 3
  have g4 := hcell_of (h).head 4
  simp only [List.getElem?_toArray, List.getElem?_cons_zero, List.getElem?_cons_succ] at g0 g1 g2 g3 g4
  clear h g0 g1 g2 g4
  go_enter Tryd.func14, Tryd.ntmps14
  go_wp2
  go_ret
  exact ⟨rfl, rfl⟩
theorem jerr_any (h : JAt w j d v nm es du er) :
    Calls Tryd.prog 12 #[.pointer (some ⟨j, 0, none⟩)] w fun e w' => e = .returned er ∧ w = w' := by
  have g0 := hcell_of (h).head 0
  have g1 := hcell_of (h).head 1
  have g2 := hcell_of (h).head 2
  have g3 := hcell_of (h).head 3
  have g4 := hcell_of (h).head 4
  simp only [List.getElem?_toArray, List.getElem?_cons_zero, List.getElem?_cons_succ] at g0 g1 g2 g3 g4
  clear h g0 g1 g2 g3
  go_enter Tryd.func12, Tryd.ntmps12
  go_wp2
  go_ret
  exact ⟨rfl, rfl⟩
end
end Go.Proofs
