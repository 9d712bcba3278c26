/- filled: the file of a journal to which records were appended. Conditions: the records are read; there are at most 1048576, each of at most 1048576 bytes; the listed variables lie as they were laid. -/
import Derived.Test.YtaiaghfckhgnnaaGreatDoorT0
import Derived.Test.YtaiaghfckhgnnaaGreatDoorD9
namespace Go.Proofs
open Go.RowKit Go.Hp Go.Dm Go.Dr Go.Jn
set_option linter.unusedVariables false
set_option maxRecDepth 10000
/-- append of numbers: what was read ahead of it reads the same -/
theorem wpList_append_ints2 {w : World} {ops : Array Oper} {rest : List Oper} {o : Oper} {a : Act} {Q : Exit → Act → World → Prop} (hg : o.guard = none) (s x : Operand)
    (hop : o.op = .call { callee := .builtin .append, args := #[s, x], argTypes := #[24, 24] }) {v y : Value} {l m : List Value} (hs : a.eval s = v) (hx : a.eval x = y)
    (hv : OC w 1 3 v l.length l) (hy : RC w 1 y m.length m) (h1 : ∀ u ∈ m, u.oneCell' = true) (hlen : l.length + m.length ≤ 1099511627776)
    (h : ∀ pv lv cv w', OC w' 1 3 (.slice pv lv cv) (l ++ m).length (l ++ m) → RC w' 1 v l.length l → Chg (fun b => sblk v = some b) w w' → (∀ b, sblk (.slice pv lv cv) = some b → sblk v = some b ∨ w.heap.size ≤ b) →
      lv = l.length + m.length → wpList Tryz.prog ops Q rest (a.put o.dst (.slice pv lv cv)) w') : wpList Tryz.prog ops Q (o :: rest) a w := by
  obtain ⟨i0, hi, hz0, hz1, hz2⟩ := info_parts info_int8
  obtain ⟨v', w', hrun, r1, r2, r3, r4⟩ := run_append_any (P := Tryz.prog) w 24 o.type 3 i0 _ 1 8 Tryz.underlying24 hi hz0 hz1 hz2 rfl (by decide) hv hy h1 (by decide) (by omega)
  have r5 := run_append_old (P := Tryz.prog) w 24 o.type 3 i0 _ 1 8 Tryz.underlying24 hi hz0 hz1 hz2 rfl (by decide) hv hy h1 (by decide) (by omega) hrun
  rw [← List.length_append] at r1
  obtain ⟨pv, cv, rfl, _⟩ := id r1
  refine wpList_value hg ?_ (h pv _ cv w' r1 r5 r2 r3 (by simp))
  subst hs hx
  simp [execOp, hop, resolve, invoke, builtin, hrun, Result.andThen]
section
variable {W w : World} {L : List Ent} {ls : List LF} {p : Option Addr} {c : Nat}
set_option maxHeartbeats 16000000 in
theorem filled_any (hg : Gl W) (hm : Many W w L) (hr : RRows W (.slice p ls.length c) ls) (hn : ls.length ≤ 1048576) (hb : ∀ x ∈ ls, x.bytes.length ≤ 1048576) :
    Calls Tryz.prog 8 #[.slice p ls.length c] w fun e w' => ∃ (hs : List LF) (bv av rv : Value), (∀ x ∈ hs, x.bytes.length ≤ 200) ∧ hs.length ≤ 40 ∧ e = .returned (.tuple #[bv, av, rv, .bool true]) ∧
      Many W w' (Ent.bytes bv (fileOf 0 (hs.map LF.bytes)) :: Ent.nums av (atL (hs.map LF.bytes)) :: Ent.recs rv hs :: L) := by
  obtain ⟨N, hN⟩ : ∃ N, N = ls.length := ⟨_, rfl⟩
  rw [← hN] at hr ⊢
  have iN : (N : Int) ≤ 1048576 := by omega
  have HHO := Lib.hid (house_any hm)
  have HP := Lib.hid (And.intro hg (And.intro hr (And.intro hb hN)))
  clear hg hm hr hn hb hN
  go_enter Tryz.func8, Tryz.ntmps8
  go_wp2_with (first | (go_at_call 15; refine stop ?_))
  refine go ?_
  refine HHO.out.mono ?_
  rintro e w1 ⟨hb, d, j, G, rfl, m1⟩
  have h0 : OC (w1.alloc (.cells #[.int .i64 0] 3)) 1 3 (.slice (some ⟨w1.heap.size, 0, none⟩) 1 1) 1 [intV 0] := OC_new w1 1 3 #[.int .i64 0] 1 1 (by decide) (by unfold maxLen; decide) rfl
  have m2 := m1.addNums (l := [0]) h0 ((Chg.refl _ w1).alloc _) (by intro b hb; simp [sblk] at hb; omega)
  have m3 := (m2.add (y := Ent.recs (.slice none 0 0) []) (Chg.refl _ _) (Recs.nil _) (good_recs _ _) (by simp [Ent.recs, rblks, sblk])).rot4
  have M3 := Lib.hid m3
  clear h0 m1 m2 m3
  go_wp2
  go_loopw [7, 8, 9] (fun t7 t8 t9 wr => t7 = .bool true ∧ ∃ (ap : Option Addr) (ac : Nat) (hp : Option Addr) (hc : Nat) (hs : List LF) (D : Dk) (G : List Nat), t8 = .slice ap (hs.length + 1) ac ∧ t9 = .int .i64 (hs.length : Int) ∧ hs.length ≤ N ∧ hs.length ≤ 40 ∧
    (∀ x ∈ hs, x.bytes.length ≤ 200) ∧ (hs = [] → D.files = []) ∧ FS 1048576 D (hs.map LF.bytes) ∧ Many W wr (Ent.box hb (houseO d j (.slice hp hs.length hc) 0 (.slice none 0 0) 0) :: Ent.house d j ⟨D, nL, endsOf (hs.map LF.bytes), 0, .nilIface⟩ G :: Ent.recs (.slice hp hs.length hc) hs :: Ent.nums (.slice ap (hs.length + 1) ac) (atL (hs.map LF.bytes)) :: L)) (fun _ _ t9 _ => N - (Lib.intOf t9).toNat)
  case atStart => exact ⟨rfl, _, _, none, 0, [], _, G, rfl, rfl, Nat.zero_le _, by simp, by simp, fun _ => rfl, FS.start 1048576, by rw [show atL (List.map LF.bytes []) = [0] from atL_nil]; exact M3.out⟩
  case round =>
    obtain ⟨rfl, ap, ac, hp, hc, hs, D, G, rfl, rfl, hi, hi40, h200, hno, hFS, hM⟩ := hrel
    have HR := Lib.hid (And.intro h200 (And.intro hFS (And.intro hM (And.intro hi (And.intro hi40 hno)))))
    have ish : (hs.length : Int) ≤ 40 := by omega
    clear h200 hno hFS hM hi hi40
    by_cases hil : (hs.length : Int) < (N : Int)
    · by_cases hi4 : (hs.length : Int) < 40
      · have d1 : decide ((hs.length : Int) < (N : Int)) = true := decide_eq_true hil
        have d2 : decide ((hs.length : Int) < 40) = true := decide_eq_true hi4
        obtain ⟨x, hx⟩ : ∃ x, ls[hs.length]? = some x := ⟨_, List.getElem?_eq_getElem (by have := HP.out.2.2.2; omega)⟩
        have hxl : x.bytes.length ≤ 1048576 := HP.out.2.2.1 x (List.mem_of_getElem? hx)
        have hMk := HR.out.2.2.1
        obtain ⟨b0, o0, rfl, -, hNc, q1, -⟩ := (HP.out.2.1.chg hMk.chg).at_ hx
        have hrx : RB W (.slice x.p x.bytes.length x.cap) x.bytes := HP.out.2.1.each x (List.mem_of_getElem? hx)
        have iNc : (N : Int) ≤ (c : Int) := by omega
        obtain ⟨r, hr⟩ : ∃ r, r = x.bytes.take 200 := ⟨_, rfl⟩
        have hrl : r.length ≤ 200 := by rw [hr, List.length_take]; omega
        have hfl := file_le (l := hs.map LF.bytes) (n := 200) (fun x hx => by obtain ⟨y, hy, rfl⟩ := List.mem_map.1 hx; exact HR.out.1 y hy)
        rw [List.length_map] at hfl
        obtain ⟨D1, ha, hFS1⟩ := HR.out.2.1.app_ok (r := r) (by omega)
        rw [List.length_map, hr] at ha
        have hwr := writes_ok (.int .i64 0) (.int .i64 0) HP.out.1 hMk hrx hxl (Nat.zero_le _) (by omega) (by omega) HR.out.2.1.look (by
          have e : r.length = (x.bytes.take 200).length := by rw [hr]
          rw [← e]; rw [e]; exact ha)
        have HWR := Lib.hid hwr
        have HRX := Lib.hid (And.intro hrx (And.intro hxl (And.intro hr (And.intro hrl (And.intro hFS1 hx)))))
        have ixl : (x.bytes.length : Int) ≤ 1048576 := by omega
        clear hx hMk hNc hrx hxl hr hrl hfl ha hFS1 hwr
        go_wp2_with (first | (go_at_call 16; refine stop ?_))
        refine go ?_
        refine HWR.out.mono ?_
        rintro e w5 ⟨rfl, hp5, hc5, y, G5, hy, m5⟩
        have hM5 := m5
        have hnu : OC w5 1 3 (.slice ap (hs.length + 1) ac) (atL (hs.map LF.bytes)).length ((atL (hs.map LF.bytes)).map intV) := m5.get (x := Ent.nums (.slice ap (hs.length + 1) ac) (atL (hs.map LF.bytes))) (by simp)
        obtain ⟨ab, rfl⟩ := OC.blk1 hnu (by rw [atL_len]; omega)
        have hac : hs.length + 1 ≤ ac := by obtain ⟨_, _, e, h1, -⟩ := id hnu; simp only [Value.slice.injEq] at e; omega
        obtain ⟨A, hA⟩ : ∃ A, A = atN (hs.map LF.bytes) hs.length := ⟨_, rfl⟩
        have hak : (atL (hs.map LF.bytes))[hs.length]? = some A := by rw [hA, atL_get (by rw [List.length_map]; exact Nat.le_refl _)]
        have q4 := (OC.atk hnu (j := hs.length) (u := intV A) (by rw [List.getElem?_map, hak]; rfl)).1
        unfold intV at q4
        have iac : (hs.length : Int) + 1 ≤ (ac : Int) := by omega
        have HREC := Lib.hid (lrecord_any (w := w5.drew) (bs := x.bytes) (RC.chg HRX.out.1 (m5.chg.trans ((Chg.refl _ _).drew) fun _ h => h) fun _ _ h => h) (by have := HRX.out.2.1; omega))
        have q1' : w5.cell? ⟨b0, o0 + hs.length, none⟩ = some (.slice x.p x.bytes.length x.cap) := by
          obtain ⟨b', o', e', -, -, q', -⟩ := (HP.out.2.1.chg m5.chg).at_ (k := hs.length) (x := x) HRX.out.2.2.2.2.2
          simp only [Option.some.injEq, Addr.mk.injEq] at e'
          obtain ⟨rfl, rfl, -⟩ := e'
          exact q'
        have M5 := Lib.hid (And.intro m5.front4 (And.intro hy hA))
        clear hM5 m5 hnu hac hak q1
        have iA : (A : Int) ≤ 8640 := by
          have hfl := file_le (l := hs.map LF.bytes) (n := 200) (fun x hx => by obtain ⟨y, hy, rfl⟩ := List.mem_map.1 hx; exact HR.out.1 y hy)
          have h2 := HR.out.2.2.2.2.1
          have h3 := atN_all (hs.map LF.bytes)
          rw [List.length_map] at hfl h3
          rw [hA, h3]; omega
        have iA0 : (0 : Int) ≤ (A : Int) := by omega
        rw [← HRX.out.2.2.1] at HREC
        obtain ⟨R, hR⟩ : ∃ R, R = r.length := ⟨_, rfl⟩
        have iR : (R : Int) ≤ 200 := by have := HRX.out.2.2.2.1; omega
        have iR0 : (0 : Int) ≤ (R : Int) := by omega
        have HRR := Lib.hid hR
        have QQ := Lib.hid q4
        have iss : (hs.length : Int) < (hs.length : Int) + 1 := by omega
        clear hA hR
        go_wp2
        refine Rx.ws_region (fun w' => w'.cell? ⟨ab, hs.length, none⟩ = some (.int .i64 (A : Int))) [(6, .r), (7, .r), (8, .r), (9, .r), (0, .h), (1, .h), (2, .h), (3, .h), (4, .h), (5, .h), (10, .e), (11, .r), (12, .r), (13, .e), (14, .e), (15, .r)] (by kernel_rfl) (by kernel_rfl) q4 (fun _ _ x _ _ h => (by cases x <;> exact h)) ?_
        iterate 4 (refine Rx.ws_q rfl rfl ?_; go_wp2; refine Rx.atS_mk ?_)
        iterate 6 (refine Rx.ws_h (v := ?_) rfl rfl ?_ ?_; rotate_left; (intro w' hS'; go_simp; try with_reducible rfl))
        refine Rx.ws_e rfl ?_
        go_wp2_with (first | (go_at_call 20; refine stop ?_))
        refine go ?_
        refine HREC.out.mono ?_
        rintro e w6 ⟨v6, rfl, o6, c6, n6⟩
        obtain ⟨p6, cc6, rfl, -⟩ := id o6
        have c6' : Chg (fun _ => False) w5 w6 := ((Chg.refl (fun _ => False) w5).drew).trans c6 fun _ h => h.elim
        rw [← HRR.out]
        have C6 := Lib.hid c6'
        clear o6 c6 n6 c6'
        go_wp2
        refine ⟨(by exact Chg.cellSome C6.out QQ.out), ?_⟩
        iterate 2 (refine Rx.ws_q rfl rfl ?_; go_wp2; refine Rx.atS_mk ?_)
        refine Rx.ws_e rfl ?_
        go_wp2
        rw [show (A : Int) + 16 + (R : Int) = ((A + (R + 16) : Nat) : Int) by omega]
        have C7 := Lib.hid (C6.out.alloc (.cells #[.int .i64 ((A + (R + 16) : Nat) : Int)] 3))
        refine ⟨(by exact Chg.cellSome (C6.out.alloc _) QQ.out), ?_⟩
        refine Rx.ws_e rfl ?_
        have m6 := M5.out.1.quiet C7.out
        have hnu6 := m6.first
        have hnew : RC (w6.alloc (.cells #[.int .i64 ((A + (R + 16) : Nat) : Int)] 3)) 1 (.slice (some ⟨w6.heap.size, 0, none⟩) 1 1) [intV (A + (R + 16))].length [intV (A + (R + 16))] := (OC_new w6 1 3 #[.int .i64 ((A + (R + 16) : Nat) : Int)] 1 1 (by decide) (by unfold maxLen; decide) rfl).rc
        refine wpList_append_ints2 rfl _ _ rfl (v := .slice (some ⟨ab, 0, none⟩) (hs.length + 1) ac) (l := (atL (hs.map LF.bytes)).map intV) (m := [intV (A + (R + 16))]) rfl rfl (by rw [List.length_map]; exact hnu6) hnew (by simp [intV, Value.oneCell']) (by rw [List.length_map, atL_len, List.length_map]; simp; omega) ?_
        intro pv lv cv w7 a1 a5 a3 a4 a2
        have hlv : lv = hs.length + 1 + 1 := (by rw [a2]; simp [atL_len])
        subst hlv
        have hatl : atL ((hs ++ [y]).map LF.bytes) = atL (hs.map LF.bytes) ++ [A + (R + 16)] := by
          rw [List.map_append, List.map_singleton, M5.out.2.1, ← HRX.out.2.2.1, atL_snoc, HRR.out, List.length_map, ← M5.out.2.2]
        have hoc : OC w7 1 3 (.slice pv (hs.length + 1 + 1) cv) (atL ((hs ++ [y]).map LF.bytes)).length ((atL ((hs ++ [y]).map LF.bytes)).map intV) := by
          rw [hatl, List.map_append, List.length_append]
          rw [List.length_append, List.length_map] at a1
          exact a1
        have m7 := (m6.growNums hoc a3 a4).front4.front4.front4
        have hS7 : w7.cell? ⟨ab, hs.length, none⟩ = some (.int .i64 (A : Int)) := by
          have h1 := a5.cell rfl (by omega) hs.length (intV A) (by rw [List.getElem?_map, atL_get (by rw [List.length_map]; exact Nat.le_refl _), ← M5.out.2.2]; rfl)
          have e0 : (⟨ab, 0, none⟩ : Addr).add hs.length = ⟨ab, hs.length, none⟩ := (by simp [Addr.add]; intro h; simp [h])
          rw [e0] at h1
          exact h1
        have M7 := Lib.hid m7
        clear a1 a5 a3 a4 a2 hatl hoc m7 m6 hnu6 hnew
        go_wp2
        refine ⟨(by exact hS7), ?_⟩
        (refine Rx.ws_q rfl rfl ?_; go_wp2; refine Rx.atS_mk ?_)
        refine Rx.ws_nil ?_
        clear hS7
        go_wp2
        go_roundw
        case rel =>
          refine ⟨rfl, pv, cv, hp5, hc5, hs ++ [y], D1, G5, by simp, by simp, by simp; omega, by simp; omega, ?_, by simp, ?_, ?_⟩
          · intro z hz
            rcases List.mem_append.1 hz with hz | hz
            · exact HR.out.1 z hz
            · obtain rfl : z = _ := by simpa using hz
              rw [M5.out.2.1, ← HRX.out.2.2.1]
              exact HRX.out.2.2.2.1
          · rw [List.map_append, List.map_singleton, M5.out.2.1, ← HRX.out.2.2.1]
            exact HRX.out.2.2.2.2.1
          · have hl7 : (hs ++ [y]).length + 1 = hs.length + 1 + 1 := by simp
            rw [hl7]
            exact M7.out
        case measure => simp [Lib.intOf]; omega
      · have d1 : decide ((hs.length : Int) < (N : Int)) = true := decide_eq_true hil
        have d2 : decide ((hs.length : Int) < 40) = false := decide_eq_false hi4
        have hM := HR.out.2.2.1
        have hFS := HR.out.2.1
        obtain ⟨D2, s0, s1, s2, s3⟩ := hFS.synced
        have m0 := hM.swap12
        obtain ⟨F3, v3, hraw3, hG3⟩ := m0.first
        have hel : (endsOf (hs.map LF.bytes)).length = hs.length := by rw [endsOf_len, List.length_map]
        have hfl := file_le (l := hs.map LF.bytes) (n := 200) (fun x hx => by obtain ⟨y, hy, rfl⟩ := List.mem_map.1 hx; exact HR.out.1 y hy)
        rw [List.length_map] at hfl
        have hi40 := HR.out.2.2.2.2.1
        have hsy := jsync_any (D2 := D2) hraw3 rfl (show nL.size ≤ maxLen by decide) (by show (endsOf (hs.map LF.bytes)).length ≤ _; omega) (Nat.zero_le _) hFS.look (fun h => s0 (by rw [List.length_map, ← hel]; exact h)) (fun h => s1 (by rw [List.length_map, ← hel]; exact h))
        have HSY := Lib.hid hsy
        have M3' := Lib.hid (And.intro m0 (And.intro hG3 hel))
        have hbx : wr.heap[hb]? = _ := hM.first
        unfold houseO at hbx
        have q1 := hcell_of hbx 1
        simp only [List.getElem?_toArray, List.getElem?_cons_zero, List.getElem?_cons_succ] at q1
        have HF := Lib.hid (And.intro s2 s3)
        obtain ⟨Z, hZ⟩ : ∃ Z, Z = (fileOf 0 (hs.map LF.bytes)).length := ⟨_, rfl⟩
        have iZ : (Z : Int) ≤ 8640 := by omega
        have iZ0 : (0 : Int) ≤ (Z : Int) := by omega
        have HZ := Lib.hid hZ
        clear hM hFS s0 s1 s2 s3 m0 hraw3 hG3 hel hfl hi40 hsy hbx hZ
        go_wp2_with (first | (go_at_call 23; refine stop ?_))
        refine go ?_
        refine HSY.out.mono ?_
        rintro e w3 ⟨rfl, hl3⟩
        obtain ⟨G4, m4⟩ := M3'.out.1.housed (by rw [M3'.out.2.1]; exact hl3)
        obtain ⟨F4, v4, hraw4, hG4⟩ := m4.first
        have hnu : OC w3 1 3 (.slice ap (hs.length + 1) ac) (atL (hs.map LF.bytes)).length ((atL (hs.map LF.bytes)).map intV) := m4.get (x := Ent.nums (.slice ap (hs.length + 1) ac) (atL (hs.map LF.bytes))) (by simp)
        obtain ⟨ab, rfl⟩ := OC.blk1 hnu (by rw [atL_len]; omega)
        have hac : hs.length + 1 ≤ ac := by obtain ⟨_, _, e, h1, -⟩ := id hnu; simp only [Value.slice.injEq] at e; omega
        have hak : (atL (hs.map LF.bytes))[hs.length]? = some Z := by rw [atL_get (by rw [List.length_map]; exact Nat.le_refl _), HZ.out, ← atN_all, List.length_map]
        have q4 := (OC.atk hnu (j := hs.length) (u := intV Z) (by rw [List.getElem?_map, hak]; rfl)).1
        unfold intV at q4
        have iac : (hs.length : Int) + 1 ≤ (ac : Int) := by omega
        have hbx : w3.heap[hb]? = _ := m4.get (x := Ent.box hb (houseO d j (.slice hp hs.length hc) 0 (.slice none 0 0) 0)) (by simp)
        unfold houseO at hbx
        have q0 := hcell_of hbx 0
        have q2 := hcell_of hbx 2
        simp only [List.getElem?_toArray, List.getElem?_cons_zero, List.getElem?_cons_succ] at q0 q2
        have M4 := Lib.hid (And.intro m4 (And.intro hG4 hraw4))
        clear hl3 m4 hraw4 hG4 hnu hac hak hbx q1
        have hz0 : ¬ Z = 0 := fun e => by
          have := count_le (hs.map LF.bytes) 0
          rw [← HZ.out, List.length_map] at this; omega
        have b1 : ((Z : Int) == 0) = false := by rw [beq_eq_false_iff_ne]; omega
        have hne : hs.map LF.bytes ≠ [] := fun e => hz0 (by rw [HZ.out, e]; rfl)
        obtain ⟨f1, f2⟩ := HF.out.2 hne
        rw [← HZ.out] at f1 f2
        have hrd := read_any 0 (Z : Int) (nm := nL) (by decide) M4.out.2.2.disk
        rw [show ({ D := D2, nm := nL, es := endsOf (hs.map LF.bytes), du := (endsOf (hs.map LF.bytes)).length, er := .nilIface } : Hs).D = D2 from rfl, f2] at hrd
        have HRD := Lib.hid hrd
        have HF1 := Lib.hid f1
        clear hne f1 f2 hrd hz0
        go_wp2_with (first | (go_at_call 37; refine stop ?_))
        refine go ?_
        refine HRD.out.mono ?_
        rintro e w5 ⟨v5, rfl, o5, n5, c5, -⟩
        have m5 := (M4.out.1.addBytes o5 c5 n5).swap12
        obtain ⟨p5, cc5, rfl, -⟩ := id o5
        obtain ⟨F5, u5, hraw5, hG5⟩ := m5.first
        have hsz := size_any (nm := nL) (by decide) hraw5.disk
        rw [show ({ D := D2, nm := nL, es := endsOf (hs.map LF.bytes), du := (endsOf (hs.map LF.bytes)).length, er := .nilIface } : Hs).D = D2 from rfl, HF1.out] at hsz
        have HSZ := Lib.hid hsz
        have hbx : w5.heap[hb]? = _ := m5.get (x := Ent.box hb (houseO d j (.slice hp hs.length hc) 0 (.slice none 0 0) 0)) (by simp)
        unfold houseO at hbx
        have k0 := hcell_of hbx 0
        simp only [List.getElem?_toArray, List.getElem?_cons_zero, List.getElem?_cons_succ] at k0
        have M5 := Lib.hid (And.intro m5 (And.intro hG5 hraw5))
        clear o5 n5 c5 m5 hraw5 hG5 hsz hbx q0 q2
        go_wp2_with (first | (go_at_call 38; refine stop ?_))
        refine go ?_
        refine HSZ.out.mono ?_
        rintro e w6 ⟨rfl, hl6⟩
        obtain ⟨F6, hraw6, ev6⟩ := M5.out.2.2.left hl6
        obtain ⟨G6, m6⟩ := M5.out.1.housed (by rw [M5.out.2.1]; exact ⟨_, ⟨F6, u5, hraw6, rfl⟩, ev6⟩)
        have hbx : w6.heap[hb]? = _ := m6.get (x := Ent.box hb (houseO d j (.slice hp hs.length hc) 0 (.slice none 0 0) 0)) (by simp)
        unfold houseO at hbx
        have q2 := hcell_of hbx 2
        simp only [List.getElem?_toArray, List.getElem?_cons_zero, List.getElem?_cons_succ] at q2
        have M6 := Lib.hid m6
        clear hl6 hraw6 ev6 m6 hbx k0
        go_wp2
        refine Rx.wp_region_sched (fun _ => True) [(0, .r), (1, .r), (2, .r), (3, .r), (4, .r), (5, .r), (6, .r), (7, .r), (8, .r), (9, .r), (10, .r), (11, .r), (12, .r), (13, .r), (14, .r), (15, .r), (16, .r), (17, .r), (18, .r), (19, .r), (20, .r), (21, .r), (22, .r), (23, .r), (24, .r), (25, .r)] (by kernel_rfl) (by kernel_rfl) trivial (fun _ _ x _ _ h => (by cases x <;> exact h)) ?_
        iterate 26 (refine Rx.wpSched_q rfl rfl ?_; go_wp2; refine ⟨rfl, ?_⟩)
        refine Rx.wpSched_nil ?_
        go_wp2
        (try simp only [Exit.inBlock, Exit.then])
        refine bodyPost_ret (results_tmp4 rfl _ _ _) rfl ?_
        refine ⟨hs, .slice p5 (fileOf 0 (hs.map LF.bytes)).length cc5, .slice (some ⟨ab, 0, none⟩) (hs.length + 1) ac, .slice hp hs.length hc, HR.out.1, HR.out.2.2.2.2.1, by simp, ?_⟩
        have m7 := M6.out.tail
        have m8 := (m7.drewN 1)
        exact (m8.sub (L' := Ent.bytes (.slice p5 _ cc5) (fileOf 0 (hs.map LF.bytes)) :: Ent.recs (.slice hp hs.length hc) hs :: Ent.nums (.slice (some ⟨ab, 0, none⟩) (hs.length + 1) ac) (atL (hs.map LF.bytes)) :: L) (by simp)).swap23
    · have d1 : decide ((hs.length : Int) < (N : Int)) = false := decide_eq_false hil
      have hM := HR.out.2.2.1
      have hFS := HR.out.2.1
      obtain ⟨D2, s0, s1, s2, s3⟩ := hFS.synced
      have m0 := hM.swap12
      obtain ⟨F3, v3, hraw3, hG3⟩ := m0.first
      have hel : (endsOf (hs.map LF.bytes)).length = hs.length := by rw [endsOf_len, List.length_map]
      have hfl := file_le (l := hs.map LF.bytes) (n := 200) (fun x hx => by obtain ⟨y, hy, rfl⟩ := List.mem_map.1 hx; exact HR.out.1 y hy)
      rw [List.length_map] at hfl
      have hi40 := HR.out.2.2.2.2.1
      have hsy := jsync_any (D2 := D2) hraw3 rfl (show nL.size ≤ maxLen by decide) (by show (endsOf (hs.map LF.bytes)).length ≤ _; omega) (Nat.zero_le _) hFS.look (fun h => s0 (by rw [List.length_map, ← hel]; exact h)) (fun h => s1 (by rw [List.length_map, ← hel]; exact h))
      have HSY := Lib.hid hsy
      have M3' := Lib.hid (And.intro m0 (And.intro hG3 hel))
      have hbx : wr.heap[hb]? = _ := hM.first
      unfold houseO at hbx
      have q1 := hcell_of hbx 1
      simp only [List.getElem?_toArray, List.getElem?_cons_zero, List.getElem?_cons_succ] at q1
      have HF := Lib.hid (And.intro s2 s3)
      obtain ⟨Z, hZ⟩ : ∃ Z, Z = (fileOf 0 (hs.map LF.bytes)).length := ⟨_, rfl⟩
      have iZ : (Z : Int) ≤ 8640 := by omega
      have iZ0 : (0 : Int) ≤ (Z : Int) := by omega
      have HZ := Lib.hid hZ
      clear hM hFS s0 s1 s2 s3 m0 hraw3 hG3 hel hfl hi40 hsy hbx hZ
      go_wp2_with (first | (go_at_call 23; refine stop ?_))
      refine go ?_
      refine HSY.out.mono ?_
      rintro e w3 ⟨rfl, hl3⟩
      obtain ⟨G4, m4⟩ := M3'.out.1.housed (by rw [M3'.out.2.1]; exact hl3)
      obtain ⟨F4, v4, hraw4, hG4⟩ := m4.first
      have hnu : OC w3 1 3 (.slice ap (hs.length + 1) ac) (atL (hs.map LF.bytes)).length ((atL (hs.map LF.bytes)).map intV) := m4.get (x := Ent.nums (.slice ap (hs.length + 1) ac) (atL (hs.map LF.bytes))) (by simp)
      obtain ⟨ab, rfl⟩ := OC.blk1 hnu (by rw [atL_len]; omega)
      have hac : hs.length + 1 ≤ ac := by obtain ⟨_, _, e, h1, -⟩ := id hnu; simp only [Value.slice.injEq] at e; omega
      have hak : (atL (hs.map LF.bytes))[hs.length]? = some Z := by rw [atL_get (by rw [List.length_map]; exact Nat.le_refl _), HZ.out, ← atN_all, List.length_map]
      have q4 := (OC.atk hnu (j := hs.length) (u := intV Z) (by rw [List.getElem?_map, hak]; rfl)).1
      unfold intV at q4
      have iac : (hs.length : Int) + 1 ≤ (ac : Int) := by omega
      have hbx : w3.heap[hb]? = _ := m4.get (x := Ent.box hb (houseO d j (.slice hp hs.length hc) 0 (.slice none 0 0) 0)) (by simp)
      unfold houseO at hbx
      have q0 := hcell_of hbx 0
      have q2 := hcell_of hbx 2
      simp only [List.getElem?_toArray, List.getElem?_cons_zero, List.getElem?_cons_succ] at q0 q2
      have M4 := Lib.hid (And.intro m4 (And.intro hG4 hraw4))
      clear hl3 m4 hraw4 hG4 hnu hac hak hbx q1
      by_cases hz0 : Z = 0
      · skip
        subst hz0
        have hhs : hs = [] := List.length_eq_zero_iff.1 (by have := count_le (hs.map LF.bytes) 0; rw [← HZ.out, List.length_map] at this; omega)
        subst hhs
        simp only [List.length_nil, show ((0 : Nat) : Int) = 0 from rfl] at q4
        have hfe : D2.files = [] := by rw [HF.out.1 rfl]; exact HR.out.2.2.2.2.2 rfl
        have hfa := files_any (w := w3) (by show D2.files.length ≤ _; rw [hfe]; simp) M4.out.2.2.disk
        have HFE := Lib.hid hfe
        have HFA := Lib.hid hfa
        clear hfe hfa
        go_wp2_with (first | (go_at_call 18; refine stop ?_))
        refine go ?_
        refine HFA.out.mono ?_
        rintro e w4 ⟨vf, lf, rfl, hf1, hf2, -, c4⟩
        have hlf : lf = [] := by
          have h := hf2.trans HFE.out
          exact List.map_eq_nil_iff.1 h
        subst hlf
        obtain ⟨pf, cf, rfl, -⟩ := id hf1.sl
        have m5 := (M4.out.1.quiet c4).sub (L' := Ent.nums (.slice (some ⟨ab, 0, none⟩) 1 ac) (atL []) :: L) (.cons _ (.cons _ (.cons _ (List.Sublist.refl _))))
        have m6 := (m5.add (y := Ent.recs (.slice none 0 0) []) (Chg.refl _ _) (Recs.nil _) (good_recs _ _) (by simp [Ent.recs, rblks, sblk])).swap12
        have m7 := m6.addBytes (v := .slice none 0 0) (l := []) (OB_nil _ _) (Chg.refl _ _) (fun b hb => by cases hb)
        have M7 := Lib.hid m7
        clear hf1 hf2 c4 m5 m6 m7
        go_wp2
        (try simp only [Exit.inBlock, Exit.then])
        refine bodyPost_ret (results_tmp4 rfl _ _ _) rfl ?_
        exact ⟨[], _, _, _, by simp, by simp, rfl, M7.out⟩
      · skip
        have b1 : ((Z : Int) == 0) = false := by rw [beq_eq_false_iff_ne]; omega
        have hne : hs.map LF.bytes ≠ [] := fun e => hz0 (by rw [HZ.out, e]; rfl)
        obtain ⟨f1, f2⟩ := HF.out.2 hne
        rw [← HZ.out] at f1 f2
        have hrd := read_any 0 (Z : Int) (nm := nL) (by decide) M4.out.2.2.disk
        rw [show ({ D := D2, nm := nL, es := endsOf (hs.map LF.bytes), du := (endsOf (hs.map LF.bytes)).length, er := .nilIface } : Hs).D = D2 from rfl, f2] at hrd
        have HRD := Lib.hid hrd
        have HF1 := Lib.hid f1
        clear hne f1 f2 hrd hz0
        go_wp2_with (first | (go_at_call 37; refine stop ?_))
        refine go ?_
        refine HRD.out.mono ?_
        rintro e w5 ⟨v5, rfl, o5, n5, c5, -⟩
        have m5 := (M4.out.1.addBytes o5 c5 n5).swap12
        obtain ⟨p5, cc5, rfl, -⟩ := id o5
        obtain ⟨F5, u5, hraw5, hG5⟩ := m5.first
        have hsz := size_any (nm := nL) (by decide) hraw5.disk
        rw [show ({ D := D2, nm := nL, es := endsOf (hs.map LF.bytes), du := (endsOf (hs.map LF.bytes)).length, er := .nilIface } : Hs).D = D2 from rfl, HF1.out] at hsz
        have HSZ := Lib.hid hsz
        have hbx : w5.heap[hb]? = _ := m5.get (x := Ent.box hb (houseO d j (.slice hp hs.length hc) 0 (.slice none 0 0) 0)) (by simp)
        unfold houseO at hbx
        have k0 := hcell_of hbx 0
        simp only [List.getElem?_toArray, List.getElem?_cons_zero, List.getElem?_cons_succ] at k0
        have M5 := Lib.hid (And.intro m5 (And.intro hG5 hraw5))
        clear o5 n5 c5 m5 hraw5 hG5 hsz hbx q0 q2
        go_wp2_with (first | (go_at_call 38; refine stop ?_))
        refine go ?_
        refine HSZ.out.mono ?_
        rintro e w6 ⟨rfl, hl6⟩
        obtain ⟨F6, hraw6, ev6⟩ := M5.out.2.2.left hl6
        obtain ⟨G6, m6⟩ := M5.out.1.housed (by rw [M5.out.2.1]; exact ⟨_, ⟨F6, u5, hraw6, rfl⟩, ev6⟩)
        have hbx : w6.heap[hb]? = _ := m6.get (x := Ent.box hb (houseO d j (.slice hp hs.length hc) 0 (.slice none 0 0) 0)) (by simp)
        unfold houseO at hbx
        have q2 := hcell_of hbx 2
        simp only [List.getElem?_toArray, List.getElem?_cons_zero, List.getElem?_cons_succ] at q2
        have M6 := Lib.hid m6
        clear hl6 hraw6 ev6 m6 hbx k0
        go_wp2
        refine Rx.wp_region_sched (fun _ => True) [(0, .r), (1, .r), (2, .r), (3, .r), (4, .r), (5, .r), (6, .r), (7, .r), (8, .r), (9, .r), (10, .r), (11, .r), (12, .r), (13, .r), (14, .r), (15, .r), (16, .r), (17, .r), (18, .r), (19, .r), (20, .r), (21, .r), (22, .r), (23, .r), (24, .r), (25, .r)] (by kernel_rfl) (by kernel_rfl) trivial (fun _ _ x _ _ h => (by cases x <;> exact h)) ?_
        iterate 26 (refine Rx.wpSched_q rfl rfl ?_; go_wp2; refine ⟨rfl, ?_⟩)
        refine Rx.wpSched_nil ?_
        go_wp2
        (try simp only [Exit.inBlock, Exit.then])
        refine bodyPost_ret (results_tmp4 rfl _ _ _) rfl ?_
        refine ⟨hs, .slice p5 (fileOf 0 (hs.map LF.bytes)).length cc5, .slice (some ⟨ab, 0, none⟩) (hs.length + 1) ac, .slice hp hs.length hc, HR.out.1, HR.out.2.2.2.2.1, by simp, ?_⟩
        have m7 := M6.out.tail
        have m8 := (m7.drewN 1)
        exact (m8.sub (L' := Ent.bytes (.slice p5 _ cc5) (fileOf 0 (hs.map LF.bytes)) :: Ent.recs (.slice hp hs.length hc) hs :: Ent.nums (.slice (some ⟨ab, 0, none⟩) (hs.length + 1) ac) (atL (hs.map LF.bytes)) :: L) (by simp)).swap23
end
end Go.Proofs
