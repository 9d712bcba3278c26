/- JournalHands' walk. Conditions: the records are read; there are at most 1048576, each of at most 1048576 bytes; the listed variables lie as they were laid. -/
import Derived.Test.YtaiaghfckhgnnaaGreatDoorJ7
namespace Go.Rx
open Go Go.RowKit
variable {P : Program} {ops : Array Oper} {Q : Exit → Act → World → Prop} {S : World → Prop}
/-- the act in its plain form -/
theorem ws_n {rest : List (Nat × Kd)} {a : Act} {w : World} (h : wpList P ops (Exit.then (fun a' w' => AtS w (WS P ops Q S rest a' w) w') (fun _ _ _ => False)) [] a w) : WS P ops Q S rest a w := by
  unfold wpList at h
  exact h.out
end Go.Rx
namespace Go.Proofs
open Go.RowKit Go.Hp Go.Dm Go.Dr Go.Jn
set_option linter.unusedVariables false
set_option maxRecDepth 10000
section
variable {W w : World} {L : List Ent}
theorem Many.perm7 {a b c d e f : Ent} (h : Many W w (a :: b :: c :: d :: e :: f :: L)) : Many W w (a :: d :: e :: f :: b :: c :: L) := h.perm (((List.perm_append_comm (l₁ := [b, c]) (l₂ := [d, e, f])).append_right L).cons a)
theorem Many.perm7b {a b c d e f : Ent} (h : Many W w (a :: b :: c :: d :: e :: f :: L)) : Many W w (a :: f :: b :: c :: d :: e :: L) := h.perm (((List.perm_append_comm (l₁ := [b, c, d, e]) (l₂ := [f])).append_right L).cons a)
theorem Many.perm8 {a b c d e f g : Ent} (h : Many W w (a :: b :: c :: d :: e :: f :: g :: L)) : Many W w (a :: c :: d :: e :: f :: g :: b :: L) := h.perm (((List.perm_append_comm (l₁ := [b]) (l₂ := [c, d, e, f, g])).append_right L).cons a)
end
section
variable {w : World} {ls1 ls3 : List LF} {p1 p2 p3 : Option Addr} {c1 c2 c3 : Nat} {his : List UInt8}
set_option maxHeartbeats 64000000 in
theorem hands_walk (hg : Gl w) (hr1 : RRows w (.slice p1 ls1.length c1) ls1) (hn1 : ls1.length ≤ 1048576) (hb1 : ∀ x ∈ ls1, x.bytes.length ≤ 1048576) (hr2 : RB w (.slice p2 his.length c2) his) (hb2 : his.length ≤ 1048576)
    (hr3 : RRows w (.slice p3 ls3.length c3) ls3) (hn3 : ls3.length ≤ 1048576) (hb3 : ∀ x ∈ ls3, x.bytes.length ≤ 1048576) :
    Calls Tryz.prog 5 #[.slice p1 ls1.length c1, .slice p2 his.length c2, .slice p3 ls3.length c3] w fun e w' => e = .returned (.bool true) ∧ Chg (fun _ => False) w w' := by
  have HHO := Lib.hid (house_any (Many.nil w))
  have HG := Lib.hid hg
  obtain ⟨N1, hN1⟩ : ∃ N, N = ls1.length := ⟨_, rfl⟩
  obtain ⟨N3, hN3⟩ : ∃ N, N = ls3.length := ⟨_, rfl⟩
  rw [← hN1] at hr1 ⊢
  rw [← hN3] at hr3 ⊢
  have iN1 : (N1 : Int) ≤ 1048576 := by omega
  have iN3 : (N3 : Int) ≤ 1048576 := by omega
  have HR1 := Lib.hid (And.intro hr1 (And.intro hb1 hN1))
  have HR2 := Lib.hid (And.intro hr2 hb2)
  have HR3 := Lib.hid (And.intro hr3 (And.intro hb3 hN3))
  have ihis : (his.length : Int) ≤ 1048576 := by omega
  clear hg hr1 hn1 hb1 hr2 hb2 hr3 hn3 hb3 hN1 hN3
  go_enter Tryz.func5, Tryz.ntmps5
  go_wp2_with (first | (go_at_call 15; refine stop ?_))
  refine go ?_
  refine HHO.out.mono ?_
  rintro e w1 ⟨hb, d, j, G, rfl, m1⟩
  have m2 : Many w w1 (Ent.box hb (houseO d j (.slice none 0 0) 0 (.slice none 0 0) 0) :: Ent.house d j ⟨⟨1048576, [], false, 0, 0⟩, nL, [], 0, .nilIface⟩ G :: Ent.recs (.slice none 0 0) [] :: []) := (m1.add (y := Ent.recs (.slice none 0 0) []) (Chg.refl _ _) (Recs.nil _) (good_recs _ _) (by simp [Ent.recs, rblks, sblk])).back3
  have M2 := Lib.hid m2
  clear m1 m2
  go_wp2
  go_loopw [8, 9] (fun t8 t9 wr => t8 = .bool true ∧ ∃ (hp : Option Addr) (hc : Nat) (hs : List LF) (D : Dk) (G : List Nat) (i : Nat), t9 = .int .i64 (i : Int) ∧ i ≤ N1 ∧ i ≤ 40 ∧ hs.length ≤ i ∧
    (∀ x ∈ hs, x.bytes.length ≤ 200) ∧ FG D (hs.map LF.bytes) 0 ∧ Many w wr (Ent.box hb (houseO d j (.slice hp hs.length hc) 0 (.slice none 0 0) 0) :: Ent.house d j ⟨D, nL, endsOf (hs.map LF.bytes), 0, .nilIface⟩ G :: Ent.recs (.slice hp hs.length hc) hs :: [])) (fun _ t9 _ => N1 - (Lib.intOf t9).toNat)
  case atStart => exact ⟨rfl, none, 0, [], _, G, 0, rfl, Nat.zero_le _, Nat.zero_le _, Nat.le_refl _, by simp, FG.start, M2.out⟩
  case round =>
    obtain ⟨rfl, hp, hc, hs, D, G, i, rfl, hi, hi40, hsi, h200, hFG, hM⟩ := hrel
    have HR := Lib.hid (And.intro h200 (And.intro hFG (And.intro hM hsi)))
    have ii0 : (0 : Int) ≤ (i : Int) := by omega
    have ii40 : (i : Int) ≤ 40 := by omega
    clear h200 hFG hM hsi
    by_cases hil : (i : Int) < (N1 : Int)
    · have d1 : decide ((i : Int) < (N1 : Int)) = true := decide_eq_true hil
      have d1n : decide (i < N1) = true := decide_eq_true (by omega)
      by_cases hi4 : (i : Int) < 40
      · have d2 : decide ((i : Int) < 40) = true := decide_eq_true hi4
        obtain ⟨x, hx⟩ : ∃ x, ls1[i]? = some x := ⟨_, List.getElem?_eq_getElem (by have := HR1.out.2.2; omega)⟩
        have hxl : x.bytes.length ≤ 1048576 := HR1.out.2.1 x (List.mem_of_getElem? hx)
        have hMk := HR.out.2.2.1
        obtain ⟨b0, o0, rfl, -, hNc, qx, -⟩ := (HR1.out.1.chg hMk.chg).at_ hx
        have hrx : RB w (.slice x.p x.bytes.length x.cap) x.bytes := HR1.out.1.each x (List.mem_of_getElem? hx)
        have iNc : (N1 : Int) ≤ (c1 : Int) := by omega
        obtain ⟨r, hr⟩ : ∃ r, r = x.bytes.take 200 := ⟨_, rfl⟩
        have hrl : r.length ≤ 200 := by rw [hr, List.length_take]; omega
        have hfl := file_le (l := hs.map LF.bytes) (n := 200) (fun x hx => by obtain ⟨y, hy, rfl⟩ := List.mem_map.1 hx; exact HR.out.1 y hy)
        rw [List.length_map] at hfl
        have hbn := HR.out.2.2.2
        obtain ⟨D1, ha, hFG1⟩ := HR.out.2.1.app_ok (r := r) (by omega)
        rw [List.length_map, hr] at ha
        have hwr := writes_ok (.int .i64 0) (.int .i64 0) HG.out hMk hrx hxl (Nat.zero_le _) (by omega) (by omega) HR.out.2.1.look (by
          have e : r.length = (x.bytes.take 200).length := by rw [hr]
          exact ha)
        have HWR := Lib.hid hwr
        have HRX := Lib.hid (And.intro hr (And.intro hrl hFG1))
        have ixl : (x.bytes.length : Int) ≤ 1048576 := by omega
        clear hx hMk hNc hrx hxl hr hrl hfl hbn ha hFG1 hwr
        go_wp2_with (first | (go_at_call 16; refine stop ?_))
        refine go ?_
        refine HWR.out.mono ?_
        rintro e w5 ⟨rfl, hp5, hc5, y, G5, hy, m5⟩
        have M5 := Lib.hid (And.intro m5 hy)
        clear m5 hy qx
        go_wp2
        go_roundw
        case rel =>
          refine ⟨by trivial, hp5, hc5, hs ++ [y], D1, G5, i + 1, by go_num, by omega, by omega, by rw [List.length_append, List.length_singleton]; have := HR.out.2.2.2; omega, ?_, ?_, M5.out.1⟩
          · intro z hz
            rcases List.mem_append.1 hz with hz | hz
            · exact HR.out.1 z hz
            · obtain rfl : z = _ := by simpa using hz
              rw [M5.out.2, ← HRX.out.1]
              exact HRX.out.2.1
          · rw [List.map_append, List.map_singleton, M5.out.2, ← HRX.out.1]
            exact HRX.out.2.2
        case measure => simp [Lib.intOf]; omega
      · have d2 : decide ((i : Int) < 40) = false := decide_eq_false hi4
        have m0 := HR.out.2.2.1.swap12
        obtain ⟨F3, v3, m1⟩ := m0.unjoin
        have hr131 : ∀ x ∈ hs.map LF.bytes, x.length ≤ 131068 := fun x hx => by
          obtain ⟨y, hy, rfl⟩ := List.mem_map.1 hx
          have := HR.out.1 y hy
          omega
        obtain ⟨D2, hO, hFG2, hBl⟩ := HR.out.2.1.opened hr131
        have hfit := HR.out.2.1.fit
        have hop := open_any HG.out m1 (show nL.size ≤ maxLen by decide) (by rw [hBl]; omega) hO
        have HOP := Lib.hid hop
        have hbx : wr.heap[hb]? = _ := m1.get (x := Ent.box hb (houseO d j (.slice hp hs.length hc) 0 (.slice none 0 0) 0)) (by simp)
        unfold houseO at hbx
        have k0 := hcell_of hbx 0
        simp only [List.getElem?_toArray, List.getElem?_cons_zero] at k0
        have HF2 := Lib.hid hFG2
        have hs40 : hs.length ≤ 40 := by have := HR.out.2.2.2; omega
        have HS := Lib.hid hs40
        clear m0 m1 hr131 hO hFG2 hBl hfit hop hbx hs40
        go_wp2_with (first | (go_at_call 17; refine stop ?_))
        refine go ?_
        refine HOP.out.mono ?_
        rintro e w2 (⟨-, j2, G2, rv, lv, rfl, hlv, m2⟩ | ⟨h, -⟩)
        case inr => exact absurd rfl h
        have hrecL : Recs w2 rv lv := m2.get (x := Ent.recs rv lv) (by simp)
        obtain ⟨pl, cl, rfl, -⟩ := id hrecL.oc
        have hrecH : Recs w2 (.slice hp hs.length hc) hs := m2.get (x := Ent.recs (.slice hp hs.length hc) hs) (by simp)
        have hlvl : lv.length = hs.length := by have := congrArg List.length hlv; rw [List.length_map, List.length_map] at this; exact this
        have heq := eqAll_same hrecL.rows hrecH.rows hlv (by have := HS.out; omega)
        rw [hlvl] at heq m2 ⊢
        have HEQ := Lib.hid heq
        have hbx : w2.heap[hb]? = _ := m2.get (x := Ent.box hb (houseO d j (.slice hp hs.length hc) 0 (.slice none 0 0) 0)) (by simp)
        unfold houseO at hbx
        have k2 := hcell_of hbx 2
        simp only [List.getElem?_toArray, List.getElem?_cons_zero, List.getElem?_cons_succ] at k2
        have M2b := Lib.hid m2
        clear hlv m2 hrecL hrecH hlvl heq hbx k0
        simp only [show ((0 : Nat) : Int) = 0 from rfl]
        go_wp2_with (first | (go_at_call 12; refine stop ?_))
        refine go ?_
        refine HEQ.out.mono ?_
        rintro e w3 ⟨rfl, c3⟩
        have m3 := M2b.out.quiet c3
        obtain ⟨F4, v4, m4⟩ := m3.unjoin
        have m5 := m4.perm7
        have m6 := m5.rejoin.swap12
        obtain ⟨r, hr⟩ : ∃ r, r = his.take 200 := ⟨_, rfl⟩
        have hrl : r.length ≤ 200 := by rw [hr, List.length_take]; omega
        have hfl := file_le (l := hs.map LF.bytes) (n := 200) (fun x hx => by obtain ⟨y, hy, rfl⟩ := List.mem_map.1 hx; exact HR.out.1 y hy)
        rw [List.length_map] at hfl
        have hs40 := HS.out
        obtain ⟨D3, ha, hFG3⟩ := HF2.out.app_ok (r := r) (by omega)
        rw [List.length_map, hr] at ha
        have hwr := writes_ok (.int .i64 0) (.int .i64 0) HG.out m6 HR2.out.1 HR2.out.2 (Nat.zero_le _) (by omega) (by omega) HF2.out.look (by
          have e : r.length = (his.take 200).length := by rw [hr]
          exact ha)
        have HWR := Lib.hid hwr
        have HRX := Lib.hid (And.intro hr (And.intro hrl hFG3))
        clear c3 m3 m4 m5 m6 hr hrl hfl hs40 ha hFG3 hwr k2
        go_wp2_with (first | (go_at_call 16; refine stop ?_))
        refine go ?_
        refine HWR.out.mono ?_
        rintro e w5 ⟨rfl, hp5, hc5, y, G5, hy, m7⟩
        obtain ⟨hs5, hhs5⟩ : ∃ hs5, hs5 = hs ++ [y] := ⟨_, rfl⟩
        rw [← hhs5] at m7
        have hv5 : hs5.map LF.bytes = hs.map LF.bytes ++ [r] := by rw [hhs5, List.map_append, List.map_singleton, hy, ← HRX.out.1]
        have hFG3 := HRX.out.2.2
        rw [← hv5] at hFG3
        have hl5 : hs5.length = hs.length + 1 := by rw [hhs5]; simp
        have h200 : ∀ x ∈ hs5, x.bytes.length ≤ 200 := fun z hz => by
          rw [hhs5] at hz
          rcases List.mem_append.1 hz with hz | hz
          · exact HR.out.1 z hz
          · obtain rfl : z = y := by simpa using hz
            rw [hy, ← HRX.out.1]; exact HRX.out.2.1
        have hlt : (fileOf 0 (hs.map LF.bytes)).length < (fileOf 0 (hs5.map LF.bytes)).length := by rw [hv5, fileOf_snoc, List.length_append, wrap_len]; omega
        have m8 := m7.swap12
        obtain ⟨F8, u8, hraw8, hG8⟩ := m8.first
        have hfl : D3.files.length ≤ 1 := by rcases hFG3.fl with ⟨h, -⟩ | h <;> rw [h] <;> simp
        have hfa := files_any (w := w5) (by show D3.files.length ≤ _; omega) hraw8.disk
        have HFA := Lib.hid hfa
        have hbx : w5.heap[hb]? = _ := m7.get (x := Ent.box hb (houseO d j (.slice hp5 hs5.length hc5) 0 (.slice none 0 0) 0)) (by simp)
        unfold houseO at hbx
        have k0 := hcell_of hbx 0
        simp only [List.getElem?_toArray, List.getElem?_cons_zero] at k0
        have H5 := Lib.hid (And.intro hFG3 (And.intro hl5 (And.intro h200 (And.intro hlt hfl))))
        have M8 := Lib.hid m8
        have i5 : (hs5.length : Int) ≤ 41 := by have := HS.out; omega
        clear hhs5 hv5 hFG3 hl5 h200 hlt m7 m8 hraw8 hG8 hfl hfa hbx hy
        go_wp2_with (first | (go_at_call 18; refine stop ?_))
        refine go ?_
        refine HFA.out.mono ?_
        rintro e w6 ⟨vf, lf, rfl, hf1, hf2, hf3, c6⟩
        have m9 := (M8.out.filesOf hf1 hf3 c6).swap12
        obtain ⟨pf, cf, rfl, -⟩ := id hf1.sl
        obtain ⟨F9, v9, m10⟩ := m9.unjoin
        have m11 := m10.perm7b.rejoin
        have M11 := Lib.hid (And.intro m11 hf2)
        clear hf1 hf2 hf3 c6 m9 m10 m11 k0
        go_wp2
        go_loopw [13, 15] (fun t13 t15 wr => ∃ (er : Value) (G : List Nat) (i : Nat) (Lx : List Ent), t15 = .int .i64 (i : Int) ∧ i ≤ 2 ∧ (er = .nilIface ∨ ∃ b, er = faultV b ∧ Ent.box b (faultO nApp ((endsOf (hs.map LF.bytes)).length : Int) 120) ∈ Lx) ∧
          Many w wr (Ent.house d j2 ⟨D3, nL, endsOf (hs.map LF.bytes), (hs.map LF.bytes).length, er⟩ G :: Ent.jrn j d v9 nL (endsOf (hs5.map LF.bytes)) 0 .nilIface :: Ent.files (.slice pf lf.length cf) lf :: Ent.box hb (houseO d j (.slice hp5 hs5.length hc5) 0 (.slice none 0 0) 0) :: Ent.recs (.slice hp5 hs5.length hc5) hs5 :: Ent.recs (.slice pl hs.length cl) lv :: Lx)) (fun _ t15 _ => 2 - (Lib.intOf t15).toNat)
        case atStart => exact ⟨.nilIface, _, 0, [], rfl, by omega, .inl rfl, M11.out.1⟩
        case round =>
          obtain ⟨er, G7, i7, Lx, rfl, hi7, her, hM⟩ := hrel
          have i70 : (0 : Int) ≤ (i7 : Int) := by omega
          by_cases hil7 : (i7 : Int) < 2
          · have d7 : decide ((i7 : Int) < 2) = true := decide_eq_true hil7
            have HREC := Lib.hid (lrecord_any (w := wr) (RC.chg HR2.out.1 hM.chg fun _ _ h => h) (by have := HR2.out.2; omega))
            have HM7 := Lib.hid (And.intro hM her)
            clear hM her
            go_wp2_with (first | (go_at_call 20; refine stop ?_))
            refine go ?_
            refine HREC.out.mono ?_
            rintro e w7 ⟨v7, rfl, o7, c7, n7⟩
            obtain ⟨p7, cc7, rfl, -⟩ := id o7
            rw [← HRX.out.1]
            have m12 := HM7.out.1.quiet c7
            have hels : (endsOf (hs.map LF.bytes)).length = (hs.map LF.bytes).length := endsOf_len _
            have hs40 := HS.out
            rcases HM7.out.2 with her | ⟨b0, her, hb0⟩
            · subst her
              have hja := japp_shut (p := p7) (n := r.length) (c := cc7) HG.out m12 rfl (show nL.size ≤ maxLen by decide) (by show (endsOf (hs.map LF.bytes)).length ≤ _; rw [hels, List.length_map]; omega) (by show (hs.map LF.bytes).length ≤ (endsOf (hs.map LF.bytes)).length; omega) (by have := HRX.out.2.1; omega) (H5.out.1.closed H5.out.2.2.2.1 _) (by decide)
              have HJA := Lib.hid hja
              clear o7 c7 n7 m12 hja
              go_wp2_with (first | (go_at_call 19; refine stop ?_))
              refine go ?_
              refine HJA.out.mono ?_
              rintro ev w8 ⟨b, G8, rfl, m13⟩
              have hmem : Ent.box b (faultO nApp ((endsOf (hs.map LF.bytes)).length : Int) 120) ∈ (Ent.box b (faultO nApp ((endsOf (hs.map LF.bytes)).length : Int) 120) :: Ent.house d j2 ⟨D3, nL, endsOf (hs.map LF.bytes), (hs.map LF.bytes).length, faultV b⟩ G8 :: Ent.jrn j d v9 nL (endsOf (hs5.map LF.bytes)) 0 .nilIface :: Ent.files (.slice pf lf.length cf) lf :: Ent.box hb (houseO d j (.slice hp5 hs5.length hc5) 0 (.slice none 0 0) 0) :: Ent.recs (.slice hp5 hs5.length hc5) hs5 :: Ent.recs (.slice pl hs.length cl) lv :: Lx) := by simp
              have hcd := code_any (HG.out.chg m13.chg) b nApp _ 120 m13.first
              simp only [show ((120 : Nat) : Int) = 120 from rfl] at hcd
              have HCD := Lib.hid hcd
              have M13 := Lib.hid (And.intro m13 hmem)
              have hfv : (faultV b) = .iface 149 (.pointer (some ⟨b, 0, none⟩)) := rfl
              rw [hfv] at HCD ⊢
              clear m13 hmem hcd hfv
              go_wp2_with (first | (go_at_call 21; refine stop ?_))
              refine go ?_
              refine HCD.out.mono ?_
              rintro ev w9 ⟨rfl, c9⟩
              have m14 := M13.out.1.quiet c9
              obtain ⟨F14, u14, hraw14, hG14⟩ := m14.swap12.first
              have HER := Lib.hid (jerr_any hraw14.jrn)
              have hcd := code_any (HG.out.chg m14.chg) b nApp _ 120 (m14.get M13.out.2)
              simp only [show ((120 : Nat) : Int) = 120 from rfl] at hcd
              have HCD2 := Lib.hid hcd
              have hsy := jsync_closed HG.out (m14.quiet (Chg.refl _ _)).swap12 rfl (by show (hs.map LF.bytes).length ≤ _; rw [List.length_map]; omega)
              have M14 := Lib.hid m14
              clear c9 m14 hraw14 hG14 hcd hsy
              go_wp2_with (first | (go_at_call 22; refine stop ?_))
              refine go ?_
              refine HER.out.mono ?_
              rintro ev w' ⟨rfl, rfl⟩
              have hfv2 : (faultV b) = .iface 149 (.pointer (some ⟨b, 0, none⟩)) := rfl
              rw [hfv2] at HCD2 ⊢
              clear hfv2
              go_wp2_with (first | (go_at_call 21; refine stop ?_))
              refine go ?_
              refine HCD2.out.mono ?_
              rintro ev w10 ⟨rfl, c10⟩
              have m15 := M14.out.quiet c10
              have hsy := jsync_closed HG.out m15.swap12 rfl (by show (hs.map LF.bytes).length ≤ _; rw [List.length_map]; omega)
              have HSY := Lib.hid hsy
              clear c10 m15 hsy
              go_wp2_with (first | (go_at_call 23; refine stop ?_))
              refine go ?_
              refine HSY.out.mono ?_
              rintro ev w11 ⟨b2, rfl, m16⟩
              have hcd := code_any (HG.out.chg m16.chg) b2 nSync _ 120 m16.first
              simp only [show ((120 : Nat) : Int) = 120 from rfl] at hcd
              have HCD3 := Lib.hid hcd
              have hfv : (faultV b2) = .iface 149 (.pointer (some ⟨b2, 0, none⟩)) := rfl
              rw [hfv] at HCD3 ⊢
              have M16 := Lib.hid m16
              clear m16 hcd hfv
              go_wp2_with (first | (go_at_call 21; refine stop ?_))
              refine go ?_
              refine HCD3.out.mono ?_
              rintro ev w12 ⟨rfl, c12⟩
              have m17 := M16.out.quiet c12
              have M17 := Lib.hid m17
              clear c12 m17
              go_wp2
              go_roundw
              case rel => exact ⟨faultV b, G8, i7 + 1, Ent.box b (faultO nApp ((endsOf (hs.map LF.bytes)).length : Int) 120) :: Lx, by go_num, by omega, .inr ⟨b, rfl, by simp⟩, M17.out.tail.perm8⟩
              case measure => simp [Lib.intOf]; omega
            · subst her
              have hja := japp_closed (p := p7) (n := r.length) (c := cc7) HG.out m12 rfl (by show (endsOf (hs.map LF.bytes)).length ≤ _; rw [hels, List.length_map]; omega)
              have HJA := Lib.hid hja
              obtain ⟨G8, hG8⟩ : ∃ G8, G8 = G7 := ⟨_, rfl⟩
              rw [← hG8] at HJA
              clear o7 c7 n7 m12 hja hG8
              go_wp2_with (first | (go_at_call 19; refine stop ?_))
              refine go ?_
              refine HJA.out.mono ?_
              rintro ev w8 ⟨b, rfl, m13⟩
              have hmem : Ent.box b0 (faultO nApp ((endsOf (hs.map LF.bytes)).length : Int) 120) ∈ (Ent.box b (faultO nApp ((endsOf (hs.map LF.bytes)).length : Int) 120) :: Ent.house d j2 ⟨D3, nL, endsOf (hs.map LF.bytes), (hs.map LF.bytes).length, faultV b0⟩ G8 :: Ent.jrn j d v9 nL (endsOf (hs5.map LF.bytes)) 0 .nilIface :: Ent.files (.slice pf lf.length cf) lf :: Ent.box hb (houseO d j (.slice hp5 hs5.length hc5) 0 (.slice none 0 0) 0) :: Ent.recs (.slice hp5 hs5.length hc5) hs5 :: Ent.recs (.slice pl hs.length cl) lv :: Lx) := by simp [hb0]
              have HB0 := Lib.hid hb0
              clear hb0
              have hcd := code_any (HG.out.chg m13.chg) b nApp _ 120 m13.first
              simp only [show ((120 : Nat) : Int) = 120 from rfl] at hcd
              have HCD := Lib.hid hcd
              have M13 := Lib.hid (And.intro m13 hmem)
              have hfv : (faultV b) = .iface 149 (.pointer (some ⟨b, 0, none⟩)) := rfl
              rw [hfv] at HCD ⊢
              clear m13 hmem hcd hfv
              go_wp2_with (first | (go_at_call 21; refine stop ?_))
              refine go ?_
              refine HCD.out.mono ?_
              rintro ev w9 ⟨rfl, c9⟩
              have m14 := M13.out.1.quiet c9
              obtain ⟨F14, u14, hraw14, hG14⟩ := m14.swap12.first
              have HER := Lib.hid (jerr_any hraw14.jrn)
              have hcd := code_any (HG.out.chg m14.chg) b0 nApp _ 120 (m14.get M13.out.2)
              simp only [show ((120 : Nat) : Int) = 120 from rfl] at hcd
              have HCD2 := Lib.hid hcd
              have hsy := jsync_closed HG.out (m14.quiet (Chg.refl _ _)).swap12 rfl (by show (hs.map LF.bytes).length ≤ _; rw [List.length_map]; omega)
              have M14 := Lib.hid m14
              clear c9 m14 hraw14 hG14 hcd hsy
              go_wp2_with (first | (go_at_call 22; refine stop ?_))
              refine go ?_
              refine HER.out.mono ?_
              rintro ev w' ⟨rfl, rfl⟩
              have hfv2 : (faultV b0) = .iface 149 (.pointer (some ⟨b0, 0, none⟩)) := rfl
              rw [hfv2] at HCD2 ⊢
              clear hfv2
              go_wp2_with (first | (go_at_call 21; refine stop ?_))
              refine go ?_
              refine HCD2.out.mono ?_
              rintro ev w10 ⟨rfl, c10⟩
              have m15 := M14.out.quiet c10
              have hsy := jsync_closed HG.out m15.swap12 rfl (by show (hs.map LF.bytes).length ≤ _; rw [List.length_map]; omega)
              have HSY := Lib.hid hsy
              clear c10 m15 hsy
              go_wp2_with (first | (go_at_call 23; refine stop ?_))
              refine go ?_
              refine HSY.out.mono ?_
              rintro ev w11 ⟨b2, rfl, m16⟩
              have hcd := code_any (HG.out.chg m16.chg) b2 nSync _ 120 m16.first
              simp only [show ((120 : Nat) : Int) = 120 from rfl] at hcd
              have HCD3 := Lib.hid hcd
              have hfv : (faultV b2) = .iface 149 (.pointer (some ⟨b2, 0, none⟩)) := rfl
              rw [hfv] at HCD3 ⊢
              have M16 := Lib.hid m16
              clear m16 hcd hfv
              go_wp2_with (first | (go_at_call 21; refine stop ?_))
              refine go ?_
              refine HCD3.out.mono ?_
              rintro ev w12 ⟨rfl, c12⟩
              have m17 := M16.out.quiet c12
              have M17 := Lib.hid m17
              clear c12 m17
              go_wp2
              go_roundw
              case rel => exact ⟨faultV b0, G8, i7 + 1, Lx, by go_num, by omega, .inr ⟨b0, rfl, HB0.out⟩, Many.sub M17.out.tail (.cons_cons _ (.cons _ (List.Sublist.refl _)))⟩
              case measure => simp [Lib.intOf]; omega
          · have d7 : decide ((i7 : Int) < 2) = false := decide_eq_false hil7
            obtain ⟨F20, u20, hraw20, hG20⟩ := hM.first
            have hfa := files_any (w := wr.drew) (by show D3.files.length ≤ _; have := H5.out.2.2.2.2; omega) (hraw20.quiet ((Chg.refl (fun _ => False) wr).drew)).disk
            have HFA2 := Lib.hid hfa
            have hbx : wr.heap[hb]? = _ := hM.get (x := Ent.box hb (houseO d j (.slice hp5 hs5.length hc5) 0 (.slice none 0 0) 0)) (by simp)
            unfold houseO at hbx
            have k0 := hcell_of hbx 0
            have k2 := hcell_of hbx 2
            simp only [List.getElem?_toArray, List.getElem?_cons_zero, List.getElem?_cons_succ] at k0 k2
            rw [H5.out.2.1] at k2
            have ish : (hs.length : Int) ≤ 40 := by have := HS.out; omega
            have ish0 : (0 : Int) ≤ (hs.length : Int) := by omega
            have hle20 := fun U (hU : Chg (fun _ => False) wr U) => jlen_any (hraw20.quiet hU).jrn
            simp only [endsOf_len, List.length_map] at hle20
            have HLE := Lib.hid hle20
            have QK := Lib.hid k2
            have M20 := Lib.hid hM
            clear hM her hraw20 hG20 hfa hbx hle20 i5 HHO HR1 M2 ihis iN1 hil hi hi40
            go_wp2
            clear d7 hil7 i70
            refine Rx.ws_region (fun w' => w'.cell? ⟨hb, 2, none⟩ = some (.slice hp5 (hs.length + 1) hc5)) [(0, .r), (1, .r), (2, .r), (3, .r), (5, .h), (4, .e), (6, .e), (7, .r), (8, .r), (9, .r), (11, .h), (12, .h), (13, .h), (14, .h), (15, .h), (16, .h), (10, .e), (17, .r), (18, .r)] (by kernel_rfl) (by kernel_rfl) k2 (fun _ _ x _ _ h => (by cases x <;> exact h)) ?_
            iterate 4 (refine Rx.ws_q rfl rfl ?_; go_wp2; refine Rx.atS_mk ?_)
            (refine Rx.ws_h (v := ?_) rfl rfl ?_ ?_; rotate_left; (intro w' hS'; go_simp; try with_reducible rfl))
            refine Rx.ws_e rfl ?_
            go_wp2_with (first | (go_at_call 18; refine stop ?_))
            refine go ?_
            refine HFA2.out.mono ?_
            rintro e w21 ⟨vg, lg, rfl, hg1, hg2, -, c21⟩
            have c21' : Chg (fun _ => False) wr w21 := ((Chg.refl (fun _ => False) wr).drew).trans c21 fun _ h => h.elim
            have m21 := M20.out.quiet c21'
            have hff : FilesAt w21 (.slice pf lf.length cf) lf := m21.get (x := Ent.files (.slice pf lf.length cf) lf) (by simp)
            have hgl : lg.length ≤ 1 := (by have h1 := congrArg List.length hg2; rw [List.length_map] at h1; show lg.length ≤ 1; rw [h1]; exact H5.out.2.2.2.2)
            have hef := eqFiles_true (by omega) hg1 hff (show lg.map LF.fl = lf.map LF.fl from hg2.trans M11.out.2.symm)
            have HEF := Lib.hid hef
            have C21 := Lib.hid c21'
            clear hg1 hg2 c21 c21' m21 hff hgl hef
            go_wp2
            refine ⟨(by exact Chg.cellSome C21.out QK.out), ?_⟩
            refine Rx.ws_e rfl ?_
            go_wp2_with (first | (go_at_call 24; refine stop ?_))
            refine go ?_
            refine HEF.out.mono ?_
            rintro e w22 ⟨rfl, nd, rfl⟩
            have C22 := Lib.hid (C21.out.drewN nd)
            go_wp2
            refine ⟨(by exact Chg.cellSome C22.out QK.out), ?_⟩
            iterate 3 (refine Rx.ws_q rfl rfl ?_; go_wp2; refine Rx.atS_mk ?_)
            refine Rx.ws_h (v := .pointer (some ⟨hb, 0, none⟩)) rfl rfl (by intro w' hS'; go_simp; try with_reducible rfl) ?_
            refine Rx.ws_n ?_
            go_wp2
            refine Rx.atS_mk ?_
            refine Rx.ws_h (v := .pointer (some ⟨hb, 0, none⟩)) rfl rfl (by intro w' hS'; go_simp; try with_reducible rfl) ?_
            refine Rx.ws_n ?_
            go_wp2
            refine Rx.atS_mk ?_
            refine Rx.ws_h (v := .pointer (some ⟨hb, 2, none⟩)) rfl rfl (by intro w' hS'; go_simp; try with_reducible rfl) ?_
            refine Rx.ws_n ?_
            go_wp2
            refine Rx.atS_mk ?_
            refine Rx.ws_h (v := .slice hp5 (hs.length + 1) hc5) rfl rfl (by intro w' hS'; go_simp; try with_reducible rfl) ?_
            refine Rx.ws_n ?_
            go_wp2
            refine Rx.atS_mk ?_
            refine Rx.ws_h (v := .int .i64 ((hs.length : Int) + 1)) rfl rfl (by intro w' hS'; go_simp; try with_reducible rfl) ?_
            refine Rx.ws_n ?_
            go_wp2
            refine Rx.atS_mk ?_
            refine Rx.ws_h (v := .int .i64 (IntKind.i64.wrap (hs.length : Int))) rfl rfl (by intro w' hS'; go_simp; try with_reducible rfl) ?_
            refine Rx.ws_n ?_
            go_wp2
            refine Rx.atS_mk ?_
            refine Rx.ws_e rfl ?_
            go_wp2_with (first | (go_at_call 25; refine stop ?_))
            refine go ?_
            refine (HLE.out _ C22.out).mono ?_
            rintro e w' ⟨rfl, rfl⟩
            go_wp2
            refine ⟨(by exact Chg.cellSome C22.out QK.out), ?_⟩
            iterate 2 (refine Rx.ws_q rfl rfl ?_; go_wp2; refine Rx.atS_mk ?_)
            refine Rx.ws_nil ?_
            clear k0 k2
            have m23 := M20.out.quiet C22.out
            obtain ⟨F23, v23, m24⟩ := m23.unjoin
            have m25 : Many w (w21.drewN nd) (Ent.disk d D3 F23 :: Ent.jrn j d v9 nL (endsOf (hs5.map LF.bytes)) 0 .nilIface :: Ent.box hb (houseO d j (.slice hp5 hs5.length hc5) 0 (.slice none 0 0) 0) :: Ent.recs (.slice hp5 hs5.length hc5) hs5 :: []) := Many.sub m24 (.cons_cons _ (.cons _ (.cons_cons _ (.cons _ (.cons_cons _ (.cons_cons _ (List.nil_sublist _)))))))
            have m26 := m25.rejoin.swap12
            have M26 := Lib.hid m26
            clear m23 m24 m25 m26
            go_wp2
            go_loopw [8, 16] (fun t8 t16 wr => t8 = .bool true ∧ ∃ (hp : Option Addr) (hc : Nat) (hs : List LF) (D : Dk) (G : List Nat) (i : Nat), t16 = .int .i64 (i : Int) ∧ i ≤ N3 ∧ i ≤ 40 ∧ hs.length ≤ i + 41 ∧
              (∀ x ∈ hs, x.bytes.length ≤ 200) ∧ (∃ s, FG D (hs.map LF.bytes) s) ∧ Many w wr (Ent.box hb (houseO d j (.slice hp hs.length hc) 0 (.slice none 0 0) 0) :: Ent.house d j ⟨D, nL, endsOf (hs.map LF.bytes), 0, .nilIface⟩ G :: Ent.recs (.slice hp hs.length hc) hs :: [])) (fun _ t16 _ => N3 - (Lib.intOf t16).toNat)
            case atStart => exact ⟨rfl, hp5, hc5, hs5, D3, _, 0, rfl, Nat.zero_le _, Nat.zero_le _, by have h1 := H5.out.2.1; have h2 := HS.out; omega, H5.out.2.2.1, ⟨_, H5.out.1⟩, M26.out⟩
            case round =>
              obtain ⟨rfl, hp, hc, hs, D, G, i, rfl, hi, hi40, hsi, h200, ⟨s, hFG⟩, hM⟩ := hrel
              have HR := Lib.hid (And.intro h200 (And.intro hFG (And.intro hM hsi)))
              have ii0 : (0 : Int) ≤ (i : Int) := by omega
              have ii40 : (i : Int) ≤ 40 := by omega
              clear h200 hFG hM hsi
              by_cases hil : (i : Int) < (N3 : Int)
              · have d1 : decide ((i : Int) < (N3 : Int)) = true := decide_eq_true hil
                have d1n : decide (i < N3) = true := decide_eq_true (by omega)
                by_cases hi4 : (i : Int) < 40
                · have d2 : decide ((i : Int) < 40) = true := decide_eq_true hi4
                  obtain ⟨x, hx⟩ : ∃ x, ls3[i]? = some x := ⟨_, List.getElem?_eq_getElem (by have := HR3.out.2.2; omega)⟩
                  have hxl : x.bytes.length ≤ 1048576 := HR3.out.2.1 x (List.mem_of_getElem? hx)
                  have hMk := HR.out.2.2.1
                  obtain ⟨b0, o0, rfl, -, hNc, qx, -⟩ := (HR3.out.1.chg hMk.chg).at_ hx
                  have hrx : RB w (.slice x.p x.bytes.length x.cap) x.bytes := HR3.out.1.each x (List.mem_of_getElem? hx)
                  have iNc : (N3 : Int) ≤ (c3 : Int) := by omega
                  obtain ⟨r, hr⟩ : ∃ r, r = x.bytes.take 200 := ⟨_, rfl⟩
                  have hrl : r.length ≤ 200 := by rw [hr, List.length_take]; omega
                  have hfl := file_le (l := hs.map LF.bytes) (n := 200) (fun x hx => by obtain ⟨y, hy, rfl⟩ := List.mem_map.1 hx; exact HR.out.1 y hy)
                  rw [List.length_map] at hfl
                  have hbn := HR.out.2.2.2
                  obtain ⟨D1, ha, hFG1⟩ := HR.out.2.1.app_ok (r := r) (by omega)
                  rw [List.length_map, hr] at ha
                  have hwr := writes_ok (.int .i64 0) (.int .i64 0) HG.out hMk hrx hxl (Nat.zero_le _) (by omega) (by omega) HR.out.2.1.look (by
                    have e : r.length = (x.bytes.take 200).length := by rw [hr]
                    exact ha)
                  have HWR := Lib.hid hwr
                  have HRX := Lib.hid (And.intro hr (And.intro hrl hFG1))
                  have ixl : (x.bytes.length : Int) ≤ 1048576 := by omega
                  clear hx hMk hNc hrx hxl hr hrl hfl hbn ha hFG1 hwr
                  go_wp2_with (first | (go_at_call 16; refine stop ?_))
                  refine go ?_
                  refine HWR.out.mono ?_
                  rintro e w5 ⟨rfl, hp5, hc5, y, G5, hy, m5⟩
                  have M5 := Lib.hid (And.intro m5 hy)
                  clear m5 hy qx
                  go_wp2
                  go_roundw
                  case rel =>
                    refine ⟨by trivial, hp5, hc5, hs ++ [y], D1, G5, i + 1, by go_num, by omega, by omega, by rw [List.length_append, List.length_singleton]; have := HR.out.2.2.2; omega, ?_, ?_, M5.out.1⟩
                    · intro z hz
                      rcases List.mem_append.1 hz with hz | hz
                      · exact HR.out.1 z hz
                      · obtain rfl : z = _ := by simpa using hz
                        rw [M5.out.2, ← HRX.out.1]
                        exact HRX.out.2.1
                    · rw [List.map_append, List.map_singleton, M5.out.2, ← HRX.out.1]
                      exact ⟨_, HRX.out.2.2⟩
                  case measure => simp [Lib.intOf]; omega
                · have d2 : decide ((i : Int) < 40) = false := decide_eq_false hi4
                  have hr131 : ∀ x ∈ hs.map LF.bytes, x.length ≤ 131068 := fun x hx => by
                    obtain ⟨y, hy, rfl⟩ := List.mem_map.1 hx
                    have := HR.out.1 y hy
                    omega
                  obtain ⟨D9, hO, hFG9, hBl⟩ := HR.out.2.1.opened hr131
                  have hfit := HR.out.2.1.fit
                  obtain ⟨F30, m30⟩ := HR.out.2.2.1.swap12.unhouse
                  have hsl := HR.out.2.2.2
                  have hop := opens_all HG.out m30.swap12 (by rw [hBl]; omega) hO hFG9.up hFG9.dur hfit hr131 (by omega) (Nat.zero_le _) (by rw [List.length_map]; exact Nat.le_refl _) (List.take_length).symm
                  simp only [List.length_map] at hop
                  have HOPN := Lib.hid hop
                  have hbx : wr.heap[hb]? = _ := HR.out.2.2.1.first
                  unfold houseO at hbx
                  have k2 := hcell_of hbx 2
                  simp only [List.getElem?_toArray, List.getElem?_cons_zero, List.getElem?_cons_succ] at k2
                  clear hr131 hO hFG9 hBl hfit m30 hsl hop hbx
                  go_wp2_with (first | (go_at_call 26; refine stop ?_))
                  refine go ?_
                  refine HOPN.out.mono ?_
                  rintro e w31 ⟨rfl, j', hp', hc', hs', G', -, m31⟩
                  have M31 := Lib.hid m31
                  clear m31 k2
                  go_wp2
                  go_ret
                  exact ⟨rfl, M31.out.chg⟩
              · have d1 : decide ((i : Int) < (N3 : Int)) = false := decide_eq_false hil
                have d1n : decide (i < N3) = false := decide_eq_false (by omega)
                have hr131 : ∀ x ∈ hs.map LF.bytes, x.length ≤ 131068 := fun x hx => by
                  obtain ⟨y, hy, rfl⟩ := List.mem_map.1 hx
                  have := HR.out.1 y hy
                  omega
                obtain ⟨D9, hO, hFG9, hBl⟩ := HR.out.2.1.opened hr131
                have hfit := HR.out.2.1.fit
                obtain ⟨F30, m30⟩ := HR.out.2.2.1.swap12.unhouse
                have hsl := HR.out.2.2.2
                have hop := opens_all HG.out m30.swap12 (by rw [hBl]; omega) hO hFG9.up hFG9.dur hfit hr131 (by omega) (Nat.zero_le _) (by rw [List.length_map]; exact Nat.le_refl _) (List.take_length).symm
                simp only [List.length_map] at hop
                have HOPN := Lib.hid hop
                have hbx : wr.heap[hb]? = _ := HR.out.2.2.1.first
                unfold houseO at hbx
                have k2 := hcell_of hbx 2
                simp only [List.getElem?_toArray, List.getElem?_cons_zero, List.getElem?_cons_succ] at k2
                clear hr131 hO hFG9 hBl hfit m30 hsl hop hbx
                go_wp2_with (first | (go_at_call 26; refine stop ?_))
                refine go ?_
                refine HOPN.out.mono ?_
                rintro e w31 ⟨rfl, j', hp', hc', hs', G', -, m31⟩
                have M31 := Lib.hid m31
                clear m31 k2
                go_wp2
                go_ret
                exact ⟨rfl, M31.out.chg⟩
    · have d1 : decide ((i : Int) < (N1 : Int)) = false := decide_eq_false hil
      have d1n : decide (i < N1) = false := decide_eq_false (by omega)
      have m0 := HR.out.2.2.1.swap12
      obtain ⟨F3, v3, m1⟩ := m0.unjoin
      have hr131 : ∀ x ∈ hs.map LF.bytes, x.length ≤ 131068 := fun x hx => by
        obtain ⟨y, hy, rfl⟩ := List.mem_map.1 hx
        have := HR.out.1 y hy
        omega
      obtain ⟨D2, hO, hFG2, hBl⟩ := HR.out.2.1.opened hr131
      have hfit := HR.out.2.1.fit
      have hop := open_any HG.out m1 (show nL.size ≤ maxLen by decide) (by rw [hBl]; omega) hO
      have HOP := Lib.hid hop
      have hbx : wr.heap[hb]? = _ := m1.get (x := Ent.box hb (houseO d j (.slice hp hs.length hc) 0 (.slice none 0 0) 0)) (by simp)
      unfold houseO at hbx
      have k0 := hcell_of hbx 0
      simp only [List.getElem?_toArray, List.getElem?_cons_zero] at k0
      have HF2 := Lib.hid hFG2
      have hs40 : hs.length ≤ 40 := by have := HR.out.2.2.2; omega
      have HS := Lib.hid hs40
      clear m0 m1 hr131 hO hFG2 hBl hfit hop hbx hs40
      go_wp2_with (first | (go_at_call 17; refine stop ?_))
      refine go ?_
      refine HOP.out.mono ?_
      rintro e w2 (⟨-, j2, G2, rv, lv, rfl, hlv, m2⟩ | ⟨h, -⟩)
      case inr => exact absurd rfl h
      have hrecL : Recs w2 rv lv := m2.get (x := Ent.recs rv lv) (by simp)
      obtain ⟨pl, cl, rfl, -⟩ := id hrecL.oc
      have hrecH : Recs w2 (.slice hp hs.length hc) hs := m2.get (x := Ent.recs (.slice hp hs.length hc) hs) (by simp)
      have hlvl : lv.length = hs.length := by have := congrArg List.length hlv; rw [List.length_map, List.length_map] at this; exact this
      have heq := eqAll_same hrecL.rows hrecH.rows hlv (by have := HS.out; omega)
      rw [hlvl] at heq m2 ⊢
      have HEQ := Lib.hid heq
      have hbx : w2.heap[hb]? = _ := m2.get (x := Ent.box hb (houseO d j (.slice hp hs.length hc) 0 (.slice none 0 0) 0)) (by simp)
      unfold houseO at hbx
      have k2 := hcell_of hbx 2
      simp only [List.getElem?_toArray, List.getElem?_cons_zero, List.getElem?_cons_succ] at k2
      have M2b := Lib.hid m2
      clear hlv m2 hrecL hrecH hlvl heq hbx k0
      simp only [show ((0 : Nat) : Int) = 0 from rfl]
      go_wp2_with (first | (go_at_call 12; refine stop ?_))
      refine go ?_
      refine HEQ.out.mono ?_
      rintro e w3 ⟨rfl, c3⟩
      have m3 := M2b.out.quiet c3
      obtain ⟨F4, v4, m4⟩ := m3.unjoin
      have m5 := m4.perm7
      have m6 := m5.rejoin.swap12
      obtain ⟨r, hr⟩ : ∃ r, r = his.take 200 := ⟨_, rfl⟩
      have hrl : r.length ≤ 200 := by rw [hr, List.length_take]; omega
      have hfl := file_le (l := hs.map LF.bytes) (n := 200) (fun x hx => by obtain ⟨y, hy, rfl⟩ := List.mem_map.1 hx; exact HR.out.1 y hy)
      rw [List.length_map] at hfl
      have hs40 := HS.out
      obtain ⟨D3, ha, hFG3⟩ := HF2.out.app_ok (r := r) (by omega)
      rw [List.length_map, hr] at ha
      have hwr := writes_ok (.int .i64 0) (.int .i64 0) HG.out m6 HR2.out.1 HR2.out.2 (Nat.zero_le _) (by omega) (by omega) HF2.out.look (by
        have e : r.length = (his.take 200).length := by rw [hr]
        exact ha)
      have HWR := Lib.hid hwr
      have HRX := Lib.hid (And.intro hr (And.intro hrl hFG3))
      clear c3 m3 m4 m5 m6 hr hrl hfl hs40 ha hFG3 hwr k2
      go_wp2_with (first | (go_at_call 16; refine stop ?_))
      refine go ?_
      refine HWR.out.mono ?_
      rintro e w5 ⟨rfl, hp5, hc5, y, G5, hy, m7⟩
      obtain ⟨hs5, hhs5⟩ : ∃ hs5, hs5 = hs ++ [y] := ⟨_, rfl⟩
      rw [← hhs5] at m7
      have hv5 : hs5.map LF.bytes = hs.map LF.bytes ++ [r] := by rw [hhs5, List.map_append, List.map_singleton, hy, ← HRX.out.1]
      have hFG3 := HRX.out.2.2
      rw [← hv5] at hFG3
      have hl5 : hs5.length = hs.length + 1 := by rw [hhs5]; simp
      have h200 : ∀ x ∈ hs5, x.bytes.length ≤ 200 := fun z hz => by
        rw [hhs5] at hz
        rcases List.mem_append.1 hz with hz | hz
        · exact HR.out.1 z hz
        · obtain rfl : z = y := by simpa using hz
          rw [hy, ← HRX.out.1]; exact HRX.out.2.1
      have hlt : (fileOf 0 (hs.map LF.bytes)).length < (fileOf 0 (hs5.map LF.bytes)).length := by rw [hv5, fileOf_snoc, List.length_append, wrap_len]; omega
      have m8 := m7.swap12
      obtain ⟨F8, u8, hraw8, hG8⟩ := m8.first
      have hfl : D3.files.length ≤ 1 := by rcases hFG3.fl with ⟨h, -⟩ | h <;> rw [h] <;> simp
      have hfa := files_any (w := w5) (by show D3.files.length ≤ _; omega) hraw8.disk
      have HFA := Lib.hid hfa
      have hbx : w5.heap[hb]? = _ := m7.get (x := Ent.box hb (houseO d j (.slice hp5 hs5.length hc5) 0 (.slice none 0 0) 0)) (by simp)
      unfold houseO at hbx
      have k0 := hcell_of hbx 0
      simp only [List.getElem?_toArray, List.getElem?_cons_zero] at k0
      have H5 := Lib.hid (And.intro hFG3 (And.intro hl5 (And.intro h200 (And.intro hlt hfl))))
      have M8 := Lib.hid m8
      have i5 : (hs5.length : Int) ≤ 41 := by have := HS.out; omega
      clear hhs5 hv5 hFG3 hl5 h200 hlt m7 m8 hraw8 hG8 hfl hfa hbx hy
      go_wp2_with (first | (go_at_call 18; refine stop ?_))
      refine go ?_
      refine HFA.out.mono ?_
      rintro e w6 ⟨vf, lf, rfl, hf1, hf2, hf3, c6⟩
      have m9 := (M8.out.filesOf hf1 hf3 c6).swap12
      obtain ⟨pf, cf, rfl, -⟩ := id hf1.sl
      obtain ⟨F9, v9, m10⟩ := m9.unjoin
      have m11 := m10.perm7b.rejoin
      have M11 := Lib.hid (And.intro m11 hf2)
      clear hf1 hf2 hf3 c6 m9 m10 m11 k0
      go_wp2
      go_loopw [13, 15] (fun t13 t15 wr => ∃ (er : Value) (G : List Nat) (i : Nat) (Lx : List Ent), t15 = .int .i64 (i : Int) ∧ i ≤ 2 ∧ (er = .nilIface ∨ ∃ b, er = faultV b ∧ Ent.box b (faultO nApp ((endsOf (hs.map LF.bytes)).length : Int) 120) ∈ Lx) ∧
        Many w wr (Ent.house d j2 ⟨D3, nL, endsOf (hs.map LF.bytes), (hs.map LF.bytes).length, er⟩ G :: Ent.jrn j d v9 nL (endsOf (hs5.map LF.bytes)) 0 .nilIface :: Ent.files (.slice pf lf.length cf) lf :: Ent.box hb (houseO d j (.slice hp5 hs5.length hc5) 0 (.slice none 0 0) 0) :: Ent.recs (.slice hp5 hs5.length hc5) hs5 :: Ent.recs (.slice pl hs.length cl) lv :: Lx)) (fun _ t15 _ => 2 - (Lib.intOf t15).toNat)
      case atStart => exact ⟨.nilIface, _, 0, [], rfl, by omega, .inl rfl, M11.out.1⟩
      case round =>
        obtain ⟨er, G7, i7, Lx, rfl, hi7, her, hM⟩ := hrel
        have i70 : (0 : Int) ≤ (i7 : Int) := by omega
        by_cases hil7 : (i7 : Int) < 2
        · have d7 : decide ((i7 : Int) < 2) = true := decide_eq_true hil7
          have HREC := Lib.hid (lrecord_any (w := wr) (RC.chg HR2.out.1 hM.chg fun _ _ h => h) (by have := HR2.out.2; omega))
          have HM7 := Lib.hid (And.intro hM her)
          clear hM her
          go_wp2_with (first | (go_at_call 20; refine stop ?_))
          refine go ?_
          refine HREC.out.mono ?_
          rintro e w7 ⟨v7, rfl, o7, c7, n7⟩
          obtain ⟨p7, cc7, rfl, -⟩ := id o7
          rw [← HRX.out.1]
          have m12 := HM7.out.1.quiet c7
          have hels : (endsOf (hs.map LF.bytes)).length = (hs.map LF.bytes).length := endsOf_len _
          have hs40 := HS.out
          rcases HM7.out.2 with her | ⟨b0, her, hb0⟩
          · subst her
            have hja := japp_shut (p := p7) (n := r.length) (c := cc7) HG.out m12 rfl (show nL.size ≤ maxLen by decide) (by show (endsOf (hs.map LF.bytes)).length ≤ _; rw [hels, List.length_map]; omega) (by show (hs.map LF.bytes).length ≤ (endsOf (hs.map LF.bytes)).length; omega) (by have := HRX.out.2.1; omega) (H5.out.1.closed H5.out.2.2.2.1 _) (by decide)
            have HJA := Lib.hid hja
            clear o7 c7 n7 m12 hja
            go_wp2_with (first | (go_at_call 19; refine stop ?_))
            refine go ?_
            refine HJA.out.mono ?_
            rintro ev w8 ⟨b, G8, rfl, m13⟩
            have hmem : Ent.box b (faultO nApp ((endsOf (hs.map LF.bytes)).length : Int) 120) ∈ (Ent.box b (faultO nApp ((endsOf (hs.map LF.bytes)).length : Int) 120) :: Ent.house d j2 ⟨D3, nL, endsOf (hs.map LF.bytes), (hs.map LF.bytes).length, faultV b⟩ G8 :: Ent.jrn j d v9 nL (endsOf (hs5.map LF.bytes)) 0 .nilIface :: Ent.files (.slice pf lf.length cf) lf :: Ent.box hb (houseO d j (.slice hp5 hs5.length hc5) 0 (.slice none 0 0) 0) :: Ent.recs (.slice hp5 hs5.length hc5) hs5 :: Ent.recs (.slice pl hs.length cl) lv :: Lx) := by simp
            have hcd := code_any (HG.out.chg m13.chg) b nApp _ 120 m13.first
            simp only [show ((120 : Nat) : Int) = 120 from rfl] at hcd
            have HCD := Lib.hid hcd
            have M13 := Lib.hid (And.intro m13 hmem)
            have hfv : (faultV b) = .iface 149 (.pointer (some ⟨b, 0, none⟩)) := rfl
            rw [hfv] at HCD ⊢
            clear m13 hmem hcd hfv
            go_wp2_with (first | (go_at_call 21; refine stop ?_))
            refine go ?_
            refine HCD.out.mono ?_
            rintro ev w9 ⟨rfl, c9⟩
            have m14 := M13.out.1.quiet c9
            obtain ⟨F14, u14, hraw14, hG14⟩ := m14.swap12.first
            have HER := Lib.hid (jerr_any hraw14.jrn)
            have hcd := code_any (HG.out.chg m14.chg) b nApp _ 120 (m14.get M13.out.2)
            simp only [show ((120 : Nat) : Int) = 120 from rfl] at hcd
            have HCD2 := Lib.hid hcd
            have hsy := jsync_closed HG.out (m14.quiet (Chg.refl _ _)).swap12 rfl (by show (hs.map LF.bytes).length ≤ _; rw [List.length_map]; omega)
            have M14 := Lib.hid m14
            clear c9 m14 hraw14 hG14 hcd hsy
            go_wp2_with (first | (go_at_call 22; refine stop ?_))
            refine go ?_
            refine HER.out.mono ?_
            rintro ev w' ⟨rfl, rfl⟩
            have hfv2 : (faultV b) = .iface 149 (.pointer (some ⟨b, 0, none⟩)) := rfl
            rw [hfv2] at HCD2 ⊢
            clear hfv2
            go_wp2_with (first | (go_at_call 21; refine stop ?_))
            refine go ?_
            refine HCD2.out.mono ?_
            rintro ev w10 ⟨rfl, c10⟩
            have m15 := M14.out.quiet c10
            have hsy := jsync_closed HG.out m15.swap12 rfl (by show (hs.map LF.bytes).length ≤ _; rw [List.length_map]; omega)
            have HSY := Lib.hid hsy
            clear c10 m15 hsy
            go_wp2_with (first | (go_at_call 23; refine stop ?_))
            refine go ?_
            refine HSY.out.mono ?_
            rintro ev w11 ⟨b2, rfl, m16⟩
            have hcd := code_any (HG.out.chg m16.chg) b2 nSync _ 120 m16.first
            simp only [show ((120 : Nat) : Int) = 120 from rfl] at hcd
            have HCD3 := Lib.hid hcd
            have hfv : (faultV b2) = .iface 149 (.pointer (some ⟨b2, 0, none⟩)) := rfl
            rw [hfv] at HCD3 ⊢
            have M16 := Lib.hid m16
            clear m16 hcd hfv
            go_wp2_with (first | (go_at_call 21; refine stop ?_))
            refine go ?_
            refine HCD3.out.mono ?_
            rintro ev w12 ⟨rfl, c12⟩
            have m17 := M16.out.quiet c12
            have M17 := Lib.hid m17
            clear c12 m17
            go_wp2
            go_roundw
            case rel => exact ⟨faultV b, G8, i7 + 1, Ent.box b (faultO nApp ((endsOf (hs.map LF.bytes)).length : Int) 120) :: Lx, by go_num, by omega, .inr ⟨b, rfl, by simp⟩, M17.out.tail.perm8⟩
            case measure => simp [Lib.intOf]; omega
          · subst her
            have hja := japp_closed (p := p7) (n := r.length) (c := cc7) HG.out m12 rfl (by show (endsOf (hs.map LF.bytes)).length ≤ _; rw [hels, List.length_map]; omega)
            have HJA := Lib.hid hja
            obtain ⟨G8, hG8⟩ : ∃ G8, G8 = G7 := ⟨_, rfl⟩
            rw [← hG8] at HJA
            clear o7 c7 n7 m12 hja hG8
            go_wp2_with (first | (go_at_call 19; refine stop ?_))
            refine go ?_
            refine HJA.out.mono ?_
            rintro ev w8 ⟨b, rfl, m13⟩
            have hmem : Ent.box b0 (faultO nApp ((endsOf (hs.map LF.bytes)).length : Int) 120) ∈ (Ent.box b (faultO nApp ((endsOf (hs.map LF.bytes)).length : Int) 120) :: Ent.house d j2 ⟨D3, nL, endsOf (hs.map LF.bytes), (hs.map LF.bytes).length, faultV b0⟩ G8 :: Ent.jrn j d v9 nL (endsOf (hs5.map LF.bytes)) 0 .nilIface :: Ent.files (.slice pf lf.length cf) lf :: Ent.box hb (houseO d j (.slice hp5 hs5.length hc5) 0 (.slice none 0 0) 0) :: Ent.recs (.slice hp5 hs5.length hc5) hs5 :: Ent.recs (.slice pl hs.length cl) lv :: Lx) := by simp [hb0]
            have HB0 := Lib.hid hb0
            clear hb0
            have hcd := code_any (HG.out.chg m13.chg) b nApp _ 120 m13.first
            simp only [show ((120 : Nat) : Int) = 120 from rfl] at hcd
            have HCD := Lib.hid hcd
            have M13 := Lib.hid (And.intro m13 hmem)
            have hfv : (faultV b) = .iface 149 (.pointer (some ⟨b, 0, none⟩)) := rfl
            rw [hfv] at HCD ⊢
            clear m13 hmem hcd hfv
            go_wp2_with (first | (go_at_call 21; refine stop ?_))
            refine go ?_
            refine HCD.out.mono ?_
            rintro ev w9 ⟨rfl, c9⟩
            have m14 := M13.out.1.quiet c9
            obtain ⟨F14, u14, hraw14, hG14⟩ := m14.swap12.first
            have HER := Lib.hid (jerr_any hraw14.jrn)
            have hcd := code_any (HG.out.chg m14.chg) b0 nApp _ 120 (m14.get M13.out.2)
            simp only [show ((120 : Nat) : Int) = 120 from rfl] at hcd
            have HCD2 := Lib.hid hcd
            have hsy := jsync_closed HG.out (m14.quiet (Chg.refl _ _)).swap12 rfl (by show (hs.map LF.bytes).length ≤ _; rw [List.length_map]; omega)
            have M14 := Lib.hid m14
            clear c9 m14 hraw14 hG14 hcd hsy
            go_wp2_with (first | (go_at_call 22; refine stop ?_))
            refine go ?_
            refine HER.out.mono ?_
            rintro ev w' ⟨rfl, rfl⟩
            have hfv2 : (faultV b0) = .iface 149 (.pointer (some ⟨b0, 0, none⟩)) := rfl
            rw [hfv2] at HCD2 ⊢
            clear hfv2
            go_wp2_with (first | (go_at_call 21; refine stop ?_))
            refine go ?_
            refine HCD2.out.mono ?_
            rintro ev w10 ⟨rfl, c10⟩
            have m15 := M14.out.quiet c10
            have hsy := jsync_closed HG.out m15.swap12 rfl (by show (hs.map LF.bytes).length ≤ _; rw [List.length_map]; omega)
            have HSY := Lib.hid hsy
            clear c10 m15 hsy
            go_wp2_with (first | (go_at_call 23; refine stop ?_))
            refine go ?_
            refine HSY.out.mono ?_
            rintro ev w11 ⟨b2, rfl, m16⟩
            have hcd := code_any (HG.out.chg m16.chg) b2 nSync _ 120 m16.first
            simp only [show ((120 : Nat) : Int) = 120 from rfl] at hcd
            have HCD3 := Lib.hid hcd
            have hfv : (faultV b2) = .iface 149 (.pointer (some ⟨b2, 0, none⟩)) := rfl
            rw [hfv] at HCD3 ⊢
            have M16 := Lib.hid m16
            clear m16 hcd hfv
            go_wp2_with (first | (go_at_call 21; refine stop ?_))
            refine go ?_
            refine HCD3.out.mono ?_
            rintro ev w12 ⟨rfl, c12⟩
            have m17 := M16.out.quiet c12
            have M17 := Lib.hid m17
            clear c12 m17
            go_wp2
            go_roundw
            case rel => exact ⟨faultV b0, G8, i7 + 1, Lx, by go_num, by omega, .inr ⟨b0, rfl, HB0.out⟩, Many.sub M17.out.tail (.cons_cons _ (.cons _ (List.Sublist.refl _)))⟩
            case measure => simp [Lib.intOf]; omega
        · have d7 : decide ((i7 : Int) < 2) = false := decide_eq_false hil7
          obtain ⟨F20, u20, hraw20, hG20⟩ := hM.first
          have hfa := files_any (w := wr.drew) (by show D3.files.length ≤ _; have := H5.out.2.2.2.2; omega) (hraw20.quiet ((Chg.refl (fun _ => False) wr).drew)).disk
          have HFA2 := Lib.hid hfa
          have hbx : wr.heap[hb]? = _ := hM.get (x := Ent.box hb (houseO d j (.slice hp5 hs5.length hc5) 0 (.slice none 0 0) 0)) (by simp)
          unfold houseO at hbx
          have k0 := hcell_of hbx 0
          have k2 := hcell_of hbx 2
          simp only [List.getElem?_toArray, List.getElem?_cons_zero, List.getElem?_cons_succ] at k0 k2
          rw [H5.out.2.1] at k2
          have ish : (hs.length : Int) ≤ 40 := by have := HS.out; omega
          have ish0 : (0 : Int) ≤ (hs.length : Int) := by omega
          have hle20 := fun U (hU : Chg (fun _ => False) wr U) => jlen_any (hraw20.quiet hU).jrn
          simp only [endsOf_len, List.length_map] at hle20
          have HLE := Lib.hid hle20
          have QK := Lib.hid k2
          have M20 := Lib.hid hM
          clear hM her hraw20 hG20 hfa hbx hle20 i5 HHO HR1 M2 ihis iN1 hil hi hi40
          go_wp2
          clear d7 hil7 i70
          refine Rx.ws_region (fun w' => w'.cell? ⟨hb, 2, none⟩ = some (.slice hp5 (hs.length + 1) hc5)) [(0, .r), (1, .r), (2, .r), (3, .r), (5, .h), (4, .e), (6, .e), (7, .r), (8, .r), (9, .r), (11, .h), (12, .h), (13, .h), (14, .h), (15, .h), (16, .h), (10, .e), (17, .r), (18, .r)] (by kernel_rfl) (by kernel_rfl) k2 (fun _ _ x _ _ h => (by cases x <;> exact h)) ?_
          iterate 4 (refine Rx.ws_q rfl rfl ?_; go_wp2; refine Rx.atS_mk ?_)
          (refine Rx.ws_h (v := ?_) rfl rfl ?_ ?_; rotate_left; (intro w' hS'; go_simp; try with_reducible rfl))
          refine Rx.ws_e rfl ?_
          go_wp2_with (first | (go_at_call 18; refine stop ?_))
          refine go ?_
          refine HFA2.out.mono ?_
          rintro e w21 ⟨vg, lg, rfl, hg1, hg2, -, c21⟩
          have c21' : Chg (fun _ => False) wr w21 := ((Chg.refl (fun _ => False) wr).drew).trans c21 fun _ h => h.elim
          have m21 := M20.out.quiet c21'
          have hff : FilesAt w21 (.slice pf lf.length cf) lf := m21.get (x := Ent.files (.slice pf lf.length cf) lf) (by simp)
          have hgl : lg.length ≤ 1 := (by have h1 := congrArg List.length hg2; rw [List.length_map] at h1; show lg.length ≤ 1; rw [h1]; exact H5.out.2.2.2.2)
          have hef := eqFiles_true (by omega) hg1 hff (show lg.map LF.fl = lf.map LF.fl from hg2.trans M11.out.2.symm)
          have HEF := Lib.hid hef
          have C21 := Lib.hid c21'
          clear hg1 hg2 c21 c21' m21 hff hgl hef
          go_wp2
          refine ⟨(by exact Chg.cellSome C21.out QK.out), ?_⟩
          refine Rx.ws_e rfl ?_
          go_wp2_with (first | (go_at_call 24; refine stop ?_))
          refine go ?_
          refine HEF.out.mono ?_
          rintro e w22 ⟨rfl, nd, rfl⟩
          have C22 := Lib.hid (C21.out.drewN nd)
          go_wp2
          refine ⟨(by exact Chg.cellSome C22.out QK.out), ?_⟩
          iterate 3 (refine Rx.ws_q rfl rfl ?_; go_wp2; refine Rx.atS_mk ?_)
          refine Rx.ws_h (v := .pointer (some ⟨hb, 0, none⟩)) rfl rfl (by intro w' hS'; go_simp; try with_reducible rfl) ?_
          refine Rx.ws_n ?_
          go_wp2
          refine Rx.atS_mk ?_
          refine Rx.ws_h (v := .pointer (some ⟨hb, 0, none⟩)) rfl rfl (by intro w' hS'; go_simp; try with_reducible rfl) ?_
          refine Rx.ws_n ?_
          go_wp2
          refine Rx.atS_mk ?_
          refine Rx.ws_h (v := .pointer (some ⟨hb, 2, none⟩)) rfl rfl (by intro w' hS'; go_simp; try with_reducible rfl) ?_
          refine Rx.ws_n ?_
          go_wp2
          refine Rx.atS_mk ?_
          refine Rx.ws_h (v := .slice hp5 (hs.length + 1) hc5) rfl rfl (by intro w' hS'; go_simp; try with_reducible rfl) ?_
          refine Rx.ws_n ?_
          go_wp2
          refine Rx.atS_mk ?_
          refine Rx.ws_h (v := .int .i64 ((hs.length : Int) + 1)) rfl rfl (by intro w' hS'; go_simp; try with_reducible rfl) ?_
          refine Rx.ws_n ?_
          go_wp2
          refine Rx.atS_mk ?_
          refine Rx.ws_h (v := .int .i64 (IntKind.i64.wrap (hs.length : Int))) rfl rfl (by intro w' hS'; go_simp; try with_reducible rfl) ?_
          refine Rx.ws_n ?_
          go_wp2
          refine Rx.atS_mk ?_
          refine Rx.ws_e rfl ?_
          go_wp2_with (first | (go_at_call 25; refine stop ?_))
          refine go ?_
          refine (HLE.out _ C22.out).mono ?_
          rintro e w' ⟨rfl, rfl⟩
          go_wp2
          refine ⟨(by exact Chg.cellSome C22.out QK.out), ?_⟩
          iterate 2 (refine Rx.ws_q rfl rfl ?_; go_wp2; refine Rx.atS_mk ?_)
          refine Rx.ws_nil ?_
          clear k0 k2
          have m23 := M20.out.quiet C22.out
          obtain ⟨F23, v23, m24⟩ := m23.unjoin
          have m25 : Many w (w21.drewN nd) (Ent.disk d D3 F23 :: Ent.jrn j d v9 nL (endsOf (hs5.map LF.bytes)) 0 .nilIface :: Ent.box hb (houseO d j (.slice hp5 hs5.length hc5) 0 (.slice none 0 0) 0) :: Ent.recs (.slice hp5 hs5.length hc5) hs5 :: []) := Many.sub m24 (.cons_cons _ (.cons _ (.cons_cons _ (.cons _ (.cons_cons _ (.cons_cons _ (List.nil_sublist _)))))))
          have m26 := m25.rejoin.swap12
          have M26 := Lib.hid m26
          clear m23 m24 m25 m26
          go_wp2
          go_loopw [8, 16] (fun t8 t16 wr => t8 = .bool true ∧ ∃ (hp : Option Addr) (hc : Nat) (hs : List LF) (D : Dk) (G : List Nat) (i : Nat), t16 = .int .i64 (i : Int) ∧ i ≤ N3 ∧ i ≤ 40 ∧ hs.length ≤ i + 41 ∧
            (∀ x ∈ hs, x.bytes.length ≤ 200) ∧ (∃ s, FG D (hs.map LF.bytes) s) ∧ Many w wr (Ent.box hb (houseO d j (.slice hp hs.length hc) 0 (.slice none 0 0) 0) :: Ent.house d j ⟨D, nL, endsOf (hs.map LF.bytes), 0, .nilIface⟩ G :: Ent.recs (.slice hp hs.length hc) hs :: [])) (fun _ t16 _ => N3 - (Lib.intOf t16).toNat)
          case atStart => exact ⟨rfl, hp5, hc5, hs5, D3, _, 0, rfl, Nat.zero_le _, Nat.zero_le _, by have h1 := H5.out.2.1; have h2 := HS.out; omega, H5.out.2.2.1, ⟨_, H5.out.1⟩, M26.out⟩
          case round =>
            obtain ⟨rfl, hp, hc, hs, D, G, i, rfl, hi, hi40, hsi, h200, ⟨s, hFG⟩, hM⟩ := hrel
            have HR := Lib.hid (And.intro h200 (And.intro hFG (And.intro hM hsi)))
            have ii0 : (0 : Int) ≤ (i : Int) := by omega
            have ii40 : (i : Int) ≤ 40 := by omega
            clear h200 hFG hM hsi
            by_cases hil : (i : Int) < (N3 : Int)
            · have d1 : decide ((i : Int) < (N3 : Int)) = true := decide_eq_true hil
              have d1n : decide (i < N3) = true := decide_eq_true (by omega)
              by_cases hi4 : (i : Int) < 40
              · have d2 : decide ((i : Int) < 40) = true := decide_eq_true hi4
                obtain ⟨x, hx⟩ : ∃ x, ls3[i]? = some x := ⟨_, List.getElem?_eq_getElem (by have := HR3.out.2.2; omega)⟩
                have hxl : x.bytes.length ≤ 1048576 := HR3.out.2.1 x (List.mem_of_getElem? hx)
                have hMk := HR.out.2.2.1
                obtain ⟨b0, o0, rfl, -, hNc, qx, -⟩ := (HR3.out.1.chg hMk.chg).at_ hx
                have hrx : RB w (.slice x.p x.bytes.length x.cap) x.bytes := HR3.out.1.each x (List.mem_of_getElem? hx)
                have iNc : (N3 : Int) ≤ (c3 : Int) := by omega
                obtain ⟨r, hr⟩ : ∃ r, r = x.bytes.take 200 := ⟨_, rfl⟩
                have hrl : r.length ≤ 200 := by rw [hr, List.length_take]; omega
                have hfl := file_le (l := hs.map LF.bytes) (n := 200) (fun x hx => by obtain ⟨y, hy, rfl⟩ := List.mem_map.1 hx; exact HR.out.1 y hy)
                rw [List.length_map] at hfl
                have hbn := HR.out.2.2.2
                obtain ⟨D1, ha, hFG1⟩ := HR.out.2.1.app_ok (r := r) (by omega)
                rw [List.length_map, hr] at ha
                have hwr := writes_ok (.int .i64 0) (.int .i64 0) HG.out hMk hrx hxl (Nat.zero_le _) (by omega) (by omega) HR.out.2.1.look (by
                  have e : r.length = (x.bytes.take 200).length := by rw [hr]
                  exact ha)
                have HWR := Lib.hid hwr
                have HRX := Lib.hid (And.intro hr (And.intro hrl hFG1))
                have ixl : (x.bytes.length : Int) ≤ 1048576 := by omega
                clear hx hMk hNc hrx hxl hr hrl hfl hbn ha hFG1 hwr
                go_wp2_with (first | (go_at_call 16; refine stop ?_))
                refine go ?_
                refine HWR.out.mono ?_
                rintro e w5 ⟨rfl, hp5, hc5, y, G5, hy, m5⟩
                have M5 := Lib.hid (And.intro m5 hy)
                clear m5 hy qx
                go_wp2
                go_roundw
                case rel =>
                  refine ⟨by trivial, hp5, hc5, hs ++ [y], D1, G5, i + 1, by go_num, by omega, by omega, by rw [List.length_append, List.length_singleton]; have := HR.out.2.2.2; omega, ?_, ?_, M5.out.1⟩
                  · intro z hz
                    rcases List.mem_append.1 hz with hz | hz
                    · exact HR.out.1 z hz
                    · obtain rfl : z = _ := by simpa using hz
                      rw [M5.out.2, ← HRX.out.1]
                      exact HRX.out.2.1
                  · rw [List.map_append, List.map_singleton, M5.out.2, ← HRX.out.1]
                    exact ⟨_, HRX.out.2.2⟩
                case measure => simp [Lib.intOf]; omega
              · have d2 : decide ((i : Int) < 40) = false := decide_eq_false hi4
                have hr131 : ∀ x ∈ hs.map LF.bytes, x.length ≤ 131068 := fun x hx => by
                  obtain ⟨y, hy, rfl⟩ := List.mem_map.1 hx
                  have := HR.out.1 y hy
                  omega
                obtain ⟨D9, hO, hFG9, hBl⟩ := HR.out.2.1.opened hr131
                have hfit := HR.out.2.1.fit
                obtain ⟨F30, m30⟩ := HR.out.2.2.1.swap12.unhouse
                have hsl := HR.out.2.2.2
                have hop := opens_all HG.out m30.swap12 (by rw [hBl]; omega) hO hFG9.up hFG9.dur hfit hr131 (by omega) (Nat.zero_le _) (by rw [List.length_map]; exact Nat.le_refl _) (List.take_length).symm
                simp only [List.length_map] at hop
                have HOPN := Lib.hid hop
                have hbx : wr.heap[hb]? = _ := HR.out.2.2.1.first
                unfold houseO at hbx
                have k2 := hcell_of hbx 2
                simp only [List.getElem?_toArray, List.getElem?_cons_zero, List.getElem?_cons_succ] at k2
                clear hr131 hO hFG9 hBl hfit m30 hsl hop hbx
                go_wp2_with (first | (go_at_call 26; refine stop ?_))
                refine go ?_
                refine HOPN.out.mono ?_
                rintro e w31 ⟨rfl, j', hp', hc', hs', G', -, m31⟩
                have M31 := Lib.hid m31
                clear m31 k2
                go_wp2
                go_ret
                exact ⟨rfl, M31.out.chg⟩
            · have d1 : decide ((i : Int) < (N3 : Int)) = false := decide_eq_false hil
              have d1n : decide (i < N3) = false := decide_eq_false (by omega)
              have hr131 : ∀ x ∈ hs.map LF.bytes, x.length ≤ 131068 := fun x hx => by
                obtain ⟨y, hy, rfl⟩ := List.mem_map.1 hx
                have := HR.out.1 y hy
                omega
              obtain ⟨D9, hO, hFG9, hBl⟩ := HR.out.2.1.opened hr131
              have hfit := HR.out.2.1.fit
              obtain ⟨F30, m30⟩ := HR.out.2.2.1.swap12.unhouse
              have hsl := HR.out.2.2.2
              have hop := opens_all HG.out m30.swap12 (by rw [hBl]; omega) hO hFG9.up hFG9.dur hfit hr131 (by omega) (Nat.zero_le _) (by rw [List.length_map]; exact Nat.le_refl _) (List.take_length).symm
              simp only [List.length_map] at hop
              have HOPN := Lib.hid hop
              have hbx : wr.heap[hb]? = _ := HR.out.2.2.1.first
              unfold houseO at hbx
              have k2 := hcell_of hbx 2
              simp only [List.getElem?_toArray, List.getElem?_cons_zero, List.getElem?_cons_succ] at k2
              clear hr131 hO hFG9 hBl hfit m30 hsl hop hbx
              go_wp2_with (first | (go_at_call 26; refine stop ?_))
              refine go ?_
              refine HOPN.out.mono ?_
              rintro e w31 ⟨rfl, j', hp', hc', hs', G', -, m31⟩
              have M31 := Lib.hid m31
              clear m31 k2
              go_wp2
              go_ret
              exact ⟨rfl, M31.out.chg⟩
end
end Go.Proofs
