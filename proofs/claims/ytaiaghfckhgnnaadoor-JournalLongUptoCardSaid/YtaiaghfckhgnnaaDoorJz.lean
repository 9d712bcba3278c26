/- journal.Sync. Conditions: the journal lies as HRaw says, no error has closed it, nobody else has changed its file; the disk's Sync is taken. -/
import Derived.Test.YtaiaghfckhgnnaaDoorJy
namespace Go.Proofs
open Go.RowKit Go.Hp Go.Dm Go.Dr Go.Jn
set_option linter.unusedVariables false
set_option maxRecDepth 10000
section
variable {w : World} {d j : Nat} {H : Hs} {F : List Nat} {v : Value}
/-- all records are durable -/
theorem HRaw.sure (h : HRaw w d j H F v) (m : Nat) : HRaw (w.setCell ⟨j, 3, none⟩ (.int .i64 (m : Int))) d j { H with du := m } F v ∧ Ev (F ++ jbl j v) (F ++ jbl j v) w (w.setCell ⟨j, 3, none⟩ (.int .i64 (m : Int))) := by
  have hjF : j ∉ F := h.off j (mem_jbl.2 (.inl rfl))
  refine ⟨⟨h.disk.keep fun k hk => hset_other (fun e => hjF ((show k = j from e) ▸ hk)), ⟨?_, OC.keep h.jrn.oc fun b hb => hset_other fun e => h.jrn.ne (by have e : b = j := e; rw [← e]; exact hb), h.jrn.ne⟩, h.off⟩, ⟨(Chg.refl _ w).setCell (p := ⟨j, 3, none⟩) (.inl (List.mem_append.2 (.inr (mem_jbl.2 (.inl rfl))))) _, fun k hk => .inl hk⟩⟩
  have := hset_same h.jrn.head 3 (.int .i64 (m : Int))
  simpa using this
set_option maxHeartbeats 16000000 in
theorem jsync_any {D2 : Dk} (h : HRaw w d j H F v) (her : H.er = .nilIface) (hs : H.nm.size ≤ maxLen) (hes : H.es.length ≤ 2147483647) (hdu : H.du ≤ H.es.length) (hlk : lookE H.D H.nm H.es H.du = 0)
    (hs0 : H.du = H.es.length → D2 = H.D) (hs1 : H.du ≠ H.es.length → H.D.sync H.nm = (0, D2)) :
    Calls Tryd.prog 16 #[.pointer (some ⟨j, 0, none⟩)] w fun e w' => e = .returned .nilIface ∧ HLeft w d j (F ++ jbl j v) ⟨D2, H.nm, H.es, H.es.length, H.er⟩ w' := by
  have HLK := look_any h hs (by omega) hdu
  rw [hlk, show givenV 0 = .nilIface from rfl] at HLK
  have HLK := Lib.hid HLK
  have HN := Lib.hid (And.intro hs (And.intro hes (And.intro hdu (And.intro hs0 hs1))))
  have g0 := hcell_of (h.jrn).head 0
  have g1 := hcell_of (h.jrn).head 1
  have g2 := hcell_of (h.jrn).head 2
  have g3 := hcell_of (h.jrn).head 3
  have g4 := hcell_of (h.jrn).head 4
  simp only [List.getElem?_toArray, List.getElem?_cons_zero, List.getElem?_cons_succ] at g0 g1 g2 g3 g4
  rw [her] at g4
  clear h her hs hes hdu hlk hs0 hs1 g0 g1 g2 g3
  go_enter Tryd.func16, Tryd.ntmps16
  go_wp2_with (first | (go_at_call 33; refine stop ?_))
  refine go ?_
  refine HLK.out.mono ?_
  rintro e w1 ⟨rfl, F1, r1, v1⟩
  have R1 := Lib.hid (And.intro r1 v1)
  obtain ⟨pv, cv, hpv, -⟩ := id r1.jrn.oc
  have g0 := hcell_of (r1.jrn).head 0
  have g1 := hcell_of (r1.jrn).head 1
  have g2 := hcell_of (r1.jrn).head 2
  have g3 := hcell_of (r1.jrn).head 3
  have g4 := hcell_of (r1.jrn).head 4
  simp only [List.getElem?_toArray, List.getElem?_cons_zero, List.getElem?_cons_succ] at g0 g1 g2 g3 g4
  subst hpv
  clear r1 v1 g4
  obtain ⟨n, hn⟩ : ∃ n, n = H.es.length := ⟨_, rfl⟩
  obtain ⟨u, hu⟩ : ∃ u, u = H.du := ⟨_, rfl⟩
  have HNU := Lib.hid (And.intro hn hu)
  rw [← hn] at g2
  rw [← hu] at g3
  clear hn hu
  by_cases hun : u = n
  · have b1 : (u == n) = true := beq_iff_eq.2 hun
    subst hun
    go_wp2
    refine Rx.ws_region (fun _ => True) [(0, .r), (1, .r), (2, .r), (3, .r), (4, .r), (5, .r), (6, .r), (7, .r), (8, .r), (9, .r)] (by kernel_rfl) (by kernel_rfl) trivial (fun _ _ x _ _ h => (by cases x <;> exact h)) ?_
    iterate 10 (refine Rx.ws_q rfl rfl ?_; go_wp2; refine Rx.atS_mk ?_)
    refine Rx.ws_nil ?_
    go_wp2
    go_ret
    refine ⟨rfl, F1 ++ jbl j (.slice pv H.es.length cv), ⟨F1, .slice pv H.es.length cv, ?_, rfl⟩, ⟨R1.out.2.chg.drew, R1.out.2.new⟩⟩
    have hun : H.du = H.es.length := by rw [← HNU.out.1, ← HNU.out.2]
    have := R1.out.1.quiet ((Chg.refl (fun _ => False) w1).drew)
    have e : (⟨D2, H.nm, H.es, H.es.length, H.er⟩ : Hs) = H := by
      rw [HN.out.2.2.2.1 hun]
      cases H
      simp only [Hs.mk.injEq, true_and, and_true] at hun ⊢
      exact hun.symm
    rw [e]
    exact this
  · have b1 : (u == n) = false := beq_eq_false_iff_ne.2 hun
    have b2 : ¬ ((u : Int) = (n : Int)) := by omega
    have HUN := Lib.hid hun
    have r2 : HRaw w1.drew.drew d j H F1 _ := R1.out.1.quiet (((Chg.refl (fun _ => False) w1).drew).drew)
    have hsy := sync_any HN.out.1 r2.disk
    rw [HN.out.2.2.2.2 (by rw [← HNU.out.1, ← HNU.out.2]; exact hun)] at hsy
    have HSY := Lib.hid hsy
    have R2 := Lib.hid r2
    clear hsy r2
    go_wp2
    refine Rx.ws_region (fun _ => True) [(0, .r), (1, .r), (2, .r), (3, .r), (4, .r), (5, .r), (6, .r), (7, .r), (8, .r), (9, .r)] (by kernel_rfl) (by kernel_rfl) trivial (fun _ _ x _ _ h => (by cases x <;> exact h)) ?_
    iterate 10 (refine Rx.ws_q rfl rfl ?_; go_wp2; refine Rx.atS_mk ?_)
    refine Rx.ws_nil ?_
    clear g2 g3
    go_wp2
    refine Rx.ws_region (fun _ => True) [(0, .r), (1, .r), (2, .r), (3, .r), (4, .r), (5, .r), (6, .r), (7, .r), (8, .e), (9, .e), (10, .r)] (by kernel_rfl) (by kernel_rfl) trivial (fun _ _ x _ _ h => (by cases x <;> exact h)) ?_
    iterate 8 (refine Rx.ws_q rfl rfl ?_; go_wp2; refine Rx.atS_mk ?_)
    refine Rx.ws_e rfl ?_
    go_wp2_with (first | (go_at_call 31; refine stop ?_))
    refine go ?_
    refine HSY.out.mono ?_
    rintro e w3 ⟨rfl, hl3⟩
    obtain ⟨F3, r3, v3⟩ := R2.out.left hl3
    have R3 := Lib.hid (And.intro r3 v3)
    clear hl3 r3 v3
    go_wp2
    refine ⟨trivial, ?_⟩
    refine Rx.ws_e rfl ?_
    go_wp2_with (first | (go_at_call 36; refine (given_any 0).mono ?_; rintro e w' ⟨rfl, rfl⟩))
    refine ⟨trivial, ?_⟩
    (refine Rx.ws_q rfl rfl ?_; go_wp2; refine Rx.atS_mk ?_)
    refine Rx.ws_nil ?_
    rw [show givenV 0 = .nilIface from rfl]
    clear g0 g1
    obtain ⟨pv3, cv3, hpv3, -⟩ := id R3.out.1.jrn.oc
    have g0 := hcell_of (R3.out.1.jrn).head 0
    have g1 := hcell_of (R3.out.1.jrn).head 1
    have g2 := hcell_of (R3.out.1.jrn).head 2
    have g3 := hcell_of (R3.out.1.jrn).head 3
    have g4 := hcell_of (R3.out.1.jrn).head 4
    simp only [List.getElem?_toArray, List.getElem?_cons_zero, List.getElem?_cons_succ] at g0 g1 g2 g3 g4
    have z3 := hfree_of R3.out.1.jrn.head 3
    have g2 : w3.cell? ⟨j, 2, none⟩ = some (.slice pv n cv) := by rw [HNU.out.1]; exact g2
    clear hpv3 g0 g1 g4
    go_wp2
    go_ret
    have hsu := R3.out.1.sure H.es.length
    refine ⟨rfl, F3 ++ jbl j (.slice pv H.es.length cv), ⟨F3, .slice pv H.es.length cv, hsu.1, rfl⟩, ?_⟩
    have e2 : Ev (F1 ++ jbl j (.slice pv H.es.length cv)) (F1 ++ jbl j (.slice pv H.es.length cv)) w1 w1.drew.drew := ⟨((Chg.refl _ w1).drew).drew, fun k hk => .inl hk⟩
    exact ((R1.out.2.trans e2).trans R3.out.2).trans hsu.2
end
end Go.Proofs
