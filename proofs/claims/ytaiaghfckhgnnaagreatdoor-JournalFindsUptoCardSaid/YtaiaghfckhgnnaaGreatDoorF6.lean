/- opens behind each step; copies; plays. Conditions: the house lives, it holds few records; the listed variables lie as they were laid. -/
import Derived.Test.YtaiaghfckhgnnaaGreatDoorF5
import Derived.Test.YtaiaghfckhgnnaaGreatDoorJg
namespace Go.Proofs
open Go.RowKit Go.Hp Go.Dm Go.Dr Go.Jn
set_option linter.unusedVariables false
set_option maxRecDepth 10000
section
variable {W w : World} {L : List Ent}
theorem Many.back4 {x y z u : Ent} (h : Many W w (x :: y :: z :: u :: L)) : Many W w (y :: z :: u :: x :: L) := h.perm ((List.perm_append_comm (l₁ := [x]) (l₂ := [y, z, u])).append_right L)
theorem Lives.quiet {w' : World} {hb n : Nat} (h : Lives W w hb n) (hc : Chg (fun _ => False) w w') : Lives W w' hb n := by
  obtain ⟨d, j, hp, hc0, hs, D, G, su, kp, h1, h2, h3, h4⟩ := h
  exact ⟨d, j, hp, hc0, hs, D, G, su, kp, h1, h2, h3, h4.quiet hc⟩
theorem FJ.one {D : Dk} {hv : List (List UInt8)} {su kp : Nat} (h : FJ D hv su kp) (hn : hv.length ≤ 100) : OneF D.files 1048576 ∧ D.files.length ≤ 1 := by
  have hf := h.fit hn
  rcases h.fl with ⟨h1, h2⟩ | h1
  · exact ⟨.inl h1, by rw [h1]; exact Nat.zero_le _⟩
  · exact ⟨.inr ⟨_, _, h1, atN_le _, by omega⟩, by rw [h1]; exact Nat.le_refl _⟩
end
section
variable {W w : World} {L : List Ent} {hb d j j0 su hc kp kp1 n k : Nat} {hp : Option Addr} {lv : Value} {hs hs' : List LF} {D D1 DR : Dk} {G F : List Nat} {rs : List (List UInt8)}
theorem lives_of (hup : DR.down = false) (hl : DR.limit = 1048576) (hd : Dur rs DR.files) (hr : ∀ x ∈ rs, x.length ≤ 200) (hkp : kp < 400) (hn : rs.length ≤ n) (hb' : hs'.map LF.bytes = rs)
    (m : Many W w (Ent.box hb (houseO d j (.slice hp hs'.length hc) hs'.length (.slice none 0 0) (kp : Int)) :: Ent.house d j ⟨{ DR with steps := 0, keep := 0 }, nL, endsOf rs, rs.length, .nilIface⟩ G :: Ent.recs (.slice hp hs'.length hc) hs' :: L)) : Lives W w hb n := by
  have hl12 : hs'.length = rs.length := by rw [← hb', List.length_map]
  have hnx := Found.next hup hl hd hr kp
  refine ⟨d, j, hp, hc, hs', _, G, hs'.length, kp, by rw [hb', hl12]; exact hnx, hkp, by omega, ?_⟩
  rw [hb', hl12]
  rw [hl12] at m
  exact Many.sub m (.cons_cons _ (.cons_cons _ (.cons_cons _ (List.nil_sublist _))))
theorem fits_self (hsu : su ≤ hs.length) : Fits L hs lv su (hs.map LF.bytes) := .inl ⟨by rw [List.length_map]; exact hsu, by rw [List.length_map]; exact Nat.le_refl _, List.take_length.symm⟩
theorem rec_big {l : List (List UInt8)} (h : ∀ x ∈ l, x.length ≤ 200) : ∀ x ∈ l, x.length ≤ 131068 := fun x hx => by have := h x hx; omega
/-- opens: all is found -/
theorem openw_len (hg : Gl W) (hm : Many W w (Ent.box hb (houseO d j0 (.slice hp hs.length hc) su lv (kp : Int)) :: Ent.disk d D F :: Ent.recs (.slice hp hs.length hc) hs :: L)) (hJ : FJ D (hs.map LF.bytes) su kp1) (hst : D.steps ≠ 1) (hkp : kp < 400) (hlen : hs.length ≤ 60) :
    Calls Tryz.prog 26 #[.pointer (some ⟨hb, 0, none⟩), .int .i64 (hs.length : Int)] w fun e w' => e = .returned (.bool true) ∧ Lives W w' hb hs.length := by
  rcases hJ.opened with ⟨-, cut, DR, ho, hup, hl, hd⟩ | ⟨h, -⟩
  · have hf := hJ.fit (by rw [List.length_map]; omega)
    have h := opens_want hg hm (by rw [hJ.bytes]; omega) ho hup hd (by omega) (rec_big hJ.sml) (by omega) (by rw [List.length_map]; omega) (fits_self (by have := hJ.su; rw [List.length_map] at this; exact this))
    rw [show (hs.length : Int) = ((hs.map LF.bytes).length : Int) by rw [List.length_map]]
    refine h.mono ?_
    rintro e w' ⟨rfl, j, hp', hc', hs', G', hb', m⟩
    exact ⟨rfl, lives_of hup hl hd hJ.sml hkp (by rw [List.length_map]; exact Nat.le_refl _) hb' m⟩
  · exact absurd h hst
/-- opens: what fits is found, armed or not -/
theorem openw_neg (hg : Gl W) (hm : Many W w (Ent.box hb (houseO d j0 (.slice hp hs.length hc) su lv (kp : Int)) :: Ent.disk d D F :: Ent.recs (.slice hp hs.length hc) hs :: L)) (hJ : FJ D (hs.map LF.bytes) su kp1) (hkp : kp < 400) (hlen : hs.length ≤ 60) :
    Calls Tryz.prog 26 #[.pointer (some ⟨hb, 0, none⟩), .int .i64 (-1)] w fun e w' => e = .returned (.bool true) ∧ Lives W w' hb hs.length ∧ w'.cell? ⟨hb, 0, none⟩ = some (.pointer (some ⟨d, 0, none⟩)) ∧ ∀ x ∈ L, x.P w' := by
  have hf := hJ.fit (by rw [List.length_map]; omega)
  have hF : Found D (hs.map LF.bytes) ∨ Fell D (hs.map LF.bytes) (atN (hs.map LF.bytes) su + kp1) := hJ.opened.elim (fun h => .inl h.2) fun h => h.2
  rcases hF with ⟨cut, DR, ho, hup, hl, hd⟩ | ⟨at_, DR1, ho, hdn, hC⟩
  · have h := opens_some hg hm (by rw [hJ.bytes]; omega) ho hup hd (by omega) (rec_big hJ.sml) (by omega) (by rw [List.length_map]; omega) (fits_self (by have := hJ.su; rw [List.length_map] at this; exact this))
    refine h.mono ?_
    rintro e w' ⟨rfl, j, hp', hc', hs', G', hb', m⟩
    exact ⟨rfl, lives_of hup hl hd hJ.sml hkp (by rw [List.length_map]; exact Nat.le_refl _) hb' m, hcell_of m.first 0, fun x hx => m.get (by simp [hx])⟩
  · obtain ⟨rs, cut, DR, hrs, hrl, hsu2, hrl2, hop, hup2, hlim, hdur, hr2, hby⟩ := hJ.found (last := []) (D1 := DR1) (k := kp1) (by rw [List.append_nil]; exact hC)
    rw [List.length_map, List.length_nil, Nat.add_zero] at hrl2
    rw [List.append_nil] at hby
    have hfl2 := file_le (l := rs) (n := 200) hr2
    have h := opens_fell hg hm (by rw [hJ.bytes]; omega) ho (by decide) hdn (by omega) hop hup2 hdur (by omega) (rec_big hr2) (by omega) (by omega) (fits_of hrs hrl hsu2 (.inl rfl))
    refine h.mono ?_
    rintro e w' ⟨rfl, j, hp', hc', hs', G', hb', m⟩
    exact ⟨rfl, lives_of hup2 hlim hdur hr2 hkp hrl2 hb' m, hcell_of m.first 0, fun x hx => m.get (by simp [hx])⟩
/-- opens behind a crash -/
theorem openw_crash (hg : Gl W) (hm : Many W w (Ent.box hb (houseO d j0 (.slice hp hs.length hc) su lv (kp : Int)) :: Ent.disk d D1.up F :: Ent.recs (.slice hp hs.length hc) hs :: L)) (hJ : FJ D (hs.map LF.bytes) su kp1) (hC : FC D1 (hs.map LF.bytes) (atN (hs.map LF.bytes) su + k)) (hkp : kp < 400) (hlen : hs.length ≤ 60) :
    Calls Tryz.prog 26 #[.pointer (some ⟨hb, 0, none⟩), .int .i64 (wholeN (hs.map LF.bytes ++ []) su k : Int)] w fun e w' => e = .returned (.bool true) ∧ Lives W w' hb hs.length := by
  have hf := hJ.fit (by rw [List.length_map]; omega)
  obtain ⟨rs, cut, DR, hrs, hrl, hsu2, hrl2, hop, hup2, hlim, hdur, hr2, hby⟩ := hJ.found (last := []) (D1 := D1) (k := k) (by rw [List.append_nil]; exact hC)
  rw [List.length_map, List.length_nil, Nat.add_zero] at hrl2
  rw [List.append_nil] at hby
  have hfl2 := file_le (l := rs) (n := 200) hr2
  have h := opens_want hg hm (by omega) hop hup2 hdur (by omega) (rec_big hr2) (by omega) (by omega) (fits_of hrs hrl hsu2 (.inl rfl))
  rw [hrl] at h
  refine h.mono ?_
  rintro e w' ⟨rfl, j, hp', hc', hs', G', hb', m⟩
  rw [← hrl] at m
  exact ⟨rfl, lives_of hup2 hlim hdur hr2 hkp hrl2 hb' m⟩
/-- opens behind a crash, armed for the next call -/
theorem openw_crash_armed (hg : Gl W) (hm : Many W w (Ent.box hb (houseO d j0 (.slice hp hs.length hc) su lv (kp : Int)) :: Ent.disk d { D1.up with steps := 1, keep := 0 } F :: Ent.recs (.slice hp hs.length hc) hs :: L)) (hJ : FJ D (hs.map LF.bytes) su kp1) (hC : FC D1 (hs.map LF.bytes) (atN (hs.map LF.bytes) su + k)) (hkp : kp < 400) (hlen : hs.length ≤ 60) :
    Calls Tryz.prog 26 #[.pointer (some ⟨hb, 0, none⟩), .int .i64 (-1)] w fun e w' => e = .returned (.bool true) ∧ Lives W w' hb hs.length := by
  have hf := hJ.fit (by rw [List.length_map]; omega)
  have hsul := hJ.su
  obtain ⟨h1, h2, h3, h4⟩ := whole_at (full := hs.map LF.bytes) _ (su := su) (k := k) rfl hsul
  have hC2 : FC { D1.up with steps := 1, keep := 0 } (hs.map LF.bytes) (atN (hs.map LF.bytes) su + k) := ⟨hC.lim, hC.fl, hC.sml⟩
  have hF : Found { D1.up with steps := 1, keep := 0 } ((hs.map LF.bytes).take (wholeN (hs.map LF.bytes) su k)) ∨ Fell { D1.up with steps := 1, keep := 0 } (hs.map LF.bytes) (atN (hs.map LF.bytes) su + k) := (hC2.opened rfl h2 h3 h4).elim (fun h => .inl h.2) fun h => h.2
  rcases hF with ⟨cut, DR, ho, hup, hl, hd⟩ | ⟨at_, DR1, ho, hdn, hC3⟩
  · have hr2 : ∀ x ∈ (hs.map LF.bytes).take (wholeN (hs.map LF.bytes) su k), x.length ≤ 200 := fun x hx => hJ.sml x (List.mem_of_mem_take hx)
    have hrl : ((hs.map LF.bytes).take (wholeN (hs.map LF.bytes) su k)).length = wholeN (hs.map LF.bytes) su k := by rw [List.length_take]; omega
    have hfl2 := file_le hr2
    rw [List.length_map] at h2
    have hby := hC2.bytes
    have h := opens_some hg hm (by omega) ho hup hd (by omega) (rec_big hr2) (by omega) (by omega) (fits_of (last := []) (by rw [List.append_nil]) hrl (by omega) (.inl rfl))
    refine h.mono ?_
    rintro e w' ⟨rfl, j, hp', hc', hs', G', hb', m⟩
    exact ⟨rfl, lives_of hup hl hd hr2 hkp (by omega) hb' m⟩
  · obtain ⟨rs, cut, DR, hrs, hrl, hsu2, hrl2, hop, hup2, hlim, hdur, hr2, hby⟩ := hJ.found (last := []) (D1 := DR1) (k := k) (by rw [List.append_nil]; exact hC3)
    rw [List.length_map, List.length_nil, Nat.add_zero] at hrl2
    rw [List.append_nil] at hby
    have hfl2 := file_le (l := rs) (n := 200) hr2
    have hby2 := hC2.bytes
    have h := opens_fell hg hm (by omega) ho (by decide) hdn (by omega) hop hup2 hdur (by omega) (rec_big hr2) (by omega) (by omega) (fits_of hrs hrl hsu2 (.inl rfl))
    refine h.mono ?_
    rintro e w' ⟨rfl, j, hp', hc', hs', G', hb', m⟩
    exact ⟨rfl, lives_of hup2 hlim hdur hr2 hkp hrl2 hb' m⟩
end
section
variable {W w : World} {hb n : Nat} {p : Option Addr} {c : Nat} {bs : List UInt8}
set_option maxHeartbeats 64000000 in
theorem copies_any (kd N M : Int) (bv : Value) (hg : Gl W) (hL : Lives W w hb n) (hn : n ≤ 60) :
    Calls Tryz.prog 64 #[.pointer (some ⟨hb, 0, none⟩), .agg #[.int .i64 kd, bv, .int .i64 N, .int .i64 M]] w fun e w' => e = .returned (.bool true) ∧ Lives W w' hb n := by
  obtain ⟨d, j, hp, hc, hs, D, G, su, kp, hJ, hkp, hsn, hm⟩ := hL
  obtain ⟨sb, hsb⟩ : ∃ sb, sb = w.heap.size := ⟨_, rfl⟩
  have m1 := (hm.addBox (.cells #[.int .i64 kd, bv, .int .i64 N, .int .i64 M] 44)).back4
  rw [← hsb] at m1
  have hbx := m1.first
  dsimp only [Ent.box, houseO] at hbx
  have g0 := hcell_of hbx 0
  simp only [List.getElem?_toArray, List.getElem?_cons_zero] at g0
  obtain ⟨F1, v1, hraw1, hG1⟩ := m1.swap12.first
  obtain ⟨hone, hfl1⟩ := hJ.one (by rw [List.length_map]; omega)
  have hfa := files_any (show D.files.length ≤ _ by omega) hraw1.disk
  have HFA := Lib.hid hfa
  have M1 := Lib.hid m1
  have HP := Lib.hid (And.intro hg (And.intro hJ (And.intro hkp (And.intro hsn (And.intro hone hn)))))
  have HSB := Lib.hid hsb
  have HR3 := Lib.hid (fun w => rest_any (w := w) M (m := 3) (by decide) (by decide))
  have HR4 := Lib.hid (fun w => rest_any (w := w) N (m := 400) (by decide) (by decide))
  simp only [show ((3 : Nat) : Int) = 3 from rfl] at HR3
  simp only [show ((400 : Nat) : Int) = 400 from rfl] at HR4
  have ihl : (hs.length : Int) ≤ 60 := by omega
  clear hg hJ hkp hsn hm hsb m1 hbx hraw1 hG1 hone hfl1 hfa hn
  go_enter Tryz.func64, Tryz.ntmps64
  go_wp2_with (first | (go_at_call 18; refine stop ?_))
  refine go ?_
  refine HFA.out.mono ?_
  rintro e w4 ⟨vf, lf, rfl, hf1, hf2, hf3, c4⟩
  obtain ⟨pf, cf, rfl, -⟩ := id hf1.sl
  have m2 := M1.out.filesOf hf1 hf3 c4
  obtain ⟨hgi, hfi⟩ := HP.out.2.2.2.2.1.given hf1 hf2 (by decide)
  have HOWN := Lib.hid (own_any hgi)
  have M2 := Lib.hid (And.intro m2 hfi)
  clear hf1 hf2 hf3 c4 m2 hgi hfi g0
  go_wp2_with (first | (go_at_call 62; refine stop ?_))
  refine go ?_
  refine HOWN.out.mono ?_
  rintro e w9 ⟨v9, l9, rfl, hi9, hf9, c9⟩
  have m3 := M2.out.1.quiet c9
  obtain ⟨p9, cc9, rfl, -⟩ := id hi9.row
  have hld := load_any (n := 1048576) (by decide) hi9
  have hda := HP.out.2.2.2.2.1.load (by decide)
  rw [hf9, M2.out.2, hda.1] at hld
  simp only [hda.2, show ((1048576 : Nat) : Int) = 1048576 from rfl] at hld
  have HLD := Lib.hid hld
  have M3 := Lib.hid m3
  clear hi9 hf9 c9 m3 hld hda
  go_wp2_with (first | (go_at_call 42; refine stop ?_))
  refine go ?_
  refine HLD.out.mono ?_
  rintro e w10 (⟨h, -⟩ | ⟨-, d2, F10, rfl, h10, v10⟩)
  case inl => exact absurd rfl h
  have m4 := (M3.out.addDisk h10 v10).front3
  have hbx := m4.first
  dsimp only [Ent.box, houseO] at hbx
  have z0 := hfree_of hbx 0
  have k0 := hcell_of hbx 0
  simp only [List.getElem?_toArray, List.getElem?_cons_zero] at k0
  have m5 := m4.setBox (i := 0) (v := .pointer (some ⟨d2, 0, none⟩)) rfl
  change Many W (w10.setCell ⟨hb, 0, none⟩ (.pointer (some ⟨d2, 0, none⟩))) (Ent.box hb (houseO d2 j (.slice hp hs.length hc) su (.slice none 0 0) (kp : Int)) :: _) at m5
  have m6 := Many.sub m5 (.cons_cons _ (.cons_cons _ (.cons _ (.cons _ (List.Sublist.refl _)))))
  have hbx6 := m6.first
  dsimp only [Ent.box, houseO] at hbx6
  have g0 := hcell_of hbx6 0
  have g2 := hcell_of hbx6 2
  simp only [List.getElem?_toArray, List.getElem?_cons_zero, List.getElem?_cons_succ] at g0 g2
  have hsx := m6.get (x := Ent.box sb (.cells #[.int .i64 kd, bv, .int .i64 N, .int .i64 M] 44)) (by simp)
  dsimp only [Ent.box] at hsx
  have s2 := hcell_of hsx 2
  have s3 := hcell_of hsx 3
  simp only [List.getElem?_toArray, List.getElem?_cons_zero, List.getElem?_cons_succ] at s2 s3
  have hJ2 := HP.out.2.1.copy
  have HJ2 := Lib.hid hJ2
  have hlen := openw_len HP.out.1 m6 hJ2 (by show (0 : Nat) ≠ 1; decide) HP.out.2.2.1 (by have := HP.out.2.2.2; omega)
  have HLEN := Lib.hid hlen
  have M6 := Lib.hid m6
  have HSB2 := HSB.out
  rw [HSB2] at s2 s3
  clear h10 v10 m4 hbx m5 m6 hbx6 hsx hJ2 hlen HSB2
  go_wp2_with (first | (go_at_call 9; refine stop ?_))
  refine go ?_
  refine (HR3.out _).mono ?_
  rintro e w' ⟨k3, hk3, rfl, rfl⟩
  by_cases hk0 : k3 = 0
  · subst hk0
    clear z0 k0 s2 s3 g0
    (try simp only [show ((0 : Nat) : Int) = 0 from rfl])
    go_wp2_with (first | (go_at_call 26; refine stop ?_))
    refine go ?_
    refine HLEN.out.mono ?_
    rintro e w' ⟨rfl, hL⟩
    have HL := Lib.hid (hL.mono HP.out.2.2.2.1)
    clear hL g2
    go_wp2
    go_ret
    exact ⟨rfl, HL.out⟩
  · have hkn : ((k3 : Int) == 0) = false := by rw [beq_eq_false_iff_ne]; omega
    have hm7 := M6.out.quiet ((Chg.refl (fun _ => False) (w10.setCell ⟨hb, 0, none⟩ (.pointer (some ⟨d2, 0, none⟩)))).drew)
    generalize (w10.setCell ⟨hb, 0, none⟩ (.pointer (some ⟨d2, 0, none⟩))) = wq at hm7 g0 s2 s3 M6 HLEN ⊢
    have M7 := Lib.hid hm7
    clear hk0 z0 k0 g2 hk3 hm7 HLEN M6
    go_wp2
    refine Rx.ws_region (fun W' => W'.cell? ⟨hb, 0, none⟩ = some (.pointer (some ⟨d2, 0, none⟩)) ∧ W'.cell? ⟨w.heap.size, 2, none⟩ = some (.int .i64 N)) [(4, .r), (5, .r), (0, .h), (1, .h), (2, .h), (7, .h), (3, .h), (8, .h), (6, .e), (9, .e), (10, .e), (11, .r), (12, .r), (13, .r), (14, .e), (15, .r), (16, .r)] (by kernel_rfl) (by kernel_rfl) ⟨g0, s2⟩ (fun _ _ x _ _ h => (by cases x <;> exact h)) ?_
    iterate 2 (refine Rx.ws_q rfl rfl ?_; go_wp2; refine Rx.atS_mk ?_)
    iterate 6 (refine Rx.ws_h (v := ?_) rfl rfl ?_ ?_; rotate_left; (intro w' hS'; go_simp; try with_reducible rfl))
    refine Rx.ws_e rfl ?_
    go_wp2_with (first | (go_at_call 9; refine stop ?_))
    refine go ?_
    refine (HR3.out _).mono ?_
    rintro e w' ⟨k4, hk4, rfl, rfl⟩
    go_wp2
    refine ⟨(by exact ⟨g0, s2⟩), ?_⟩
    refine Rx.ws_e rfl ?_
    go_wp2_with (first | (go_at_call 9; refine stop ?_))
    refine go ?_
    refine (HR4.out _).mono ?_
    rintro e w' ⟨k5, hk5, rfl, rfl⟩
    go_wp2
    refine ⟨(by exact ⟨g0, s2⟩), ?_⟩
    refine Rx.ws_e rfl ?_
    have harm := arm_any (k4 : Int) (k5 : Int) (by omega) (by omega) (by omega) M7.out.swap12.first
    obtain ⟨ha1, ha2⟩ := HJ2.out.armed k4 k5
    rw [ha1] at harm
    have HARM := Lib.hid harm
    have HA2 := Lib.hid ha2
    clear harm ha1 ha2
    go_wp2_with (first | (go_at_call 29; refine stop ?_))
    refine go ?_
    refine HARM.out.mono ?_
    rintro e w12 ⟨rfl, h12, v12⟩
    obtain ⟨F12, m8⟩ := M7.out.swap12.left ⟨F10, h12, v12⟩
    have hbx := m8.swap12.first
    dsimp only [Ent.box, houseO] at hbx
    have k0 := hcell_of hbx 0
    simp only [List.getElem?_toArray, List.getElem?_cons_zero, List.getElem?_cons_succ] at k0
    have hsx := m8.get (x := Ent.box sb (.cells #[.int .i64 kd, bv, .int .i64 N, .int .i64 M] 44)) (by simp)
    dsimp only [Ent.box] at hsx
    have e2 := hcell_of hsx 2
    simp only [List.getElem?_toArray, List.getElem?_cons_zero, List.getElem?_cons_succ] at e2
    rw [HSB.out] at e2
    have hneg := openw_neg HP.out.1 m8.swap12 HA2.out HP.out.2.2.1 (by have := HP.out.2.2.2; omega)
    have HNEG := Lib.hid hneg
    have HKE := Lib.hid (And.intro k0 e2)
    clear h12 v12 m8 hbx hsx hneg k0 e2 g0 s2 s3
    go_wp2
    refine ⟨(by exact HKE.out), ?_⟩
    iterate 3 (refine Rx.ws_q rfl rfl ?_; go_wp2; refine Rx.atS_mk ?_)
    refine Rx.ws_e rfl ?_
    go_wp2_with (first | (go_at_call 26; refine stop ?_))
    refine go ?_
    refine HNEG.out.mono ?_
    rintro e w13 ⟨rfl, hL, hc0, hcs⟩
    have hsx := hcs (Ent.box sb (.cells #[.int .i64 kd, bv, .int .i64 N, .int .i64 M] 44)) (by simp)
    dsimp only [Ent.box] at hsx
    have e2 := hcell_of hsx 2
    simp only [List.getElem?_toArray, List.getElem?_cons_zero, List.getElem?_cons_succ] at e2
    rw [HSB.out] at e2
    have HL := Lib.hid (hL.mono HP.out.2.2.2.1)
    have HKF := Lib.hid (And.intro hc0 e2)
    clear hL hc0 hcs hsx e2
    go_wp2
    refine ⟨(by exact HKF.out), ?_⟩
    iterate 2 (refine Rx.ws_q rfl rfl ?_; go_wp2; refine Rx.atS_mk ?_)
    refine Rx.ws_nil ?_
    go_wp2
    go_ret
    exact ⟨rfl, HL.out⟩
set_option maxHeartbeats 64000000 in
theorem plays_any (kd N M : Int) (hg : Gl W) (hL : Lives W w hb n) (hn : n ≤ 59) (hrb : RB W (.slice p bs.length c) bs) (hbl : bs.length ≤ 1048576) :
    Calls Tryz.prog 27 #[.pointer (some ⟨hb, 0, none⟩), .agg #[.int .i64 kd, .slice p bs.length c, .int .i64 N, .int .i64 M]] w fun e w' => e = .returned (.bool true) ∧ Lives W w' hb (n + 1) := by
  have hLq := hL.quiet ((Chg.refl (fun _ => False) w).alloc (.cells #[.int .i64 kd, .slice p bs.length c, .int .i64 N, .int .i64 M] 44))
  obtain ⟨d, j, hp, hc, hs, D, G, su, kp, hJ, hkp, hsn, hm⟩ := hL
  have hW0 := writes_put (.int .i64 0) (.int .i64 0) hg hLq (by omega) hrb hbl
  have hW1 := writes_syn (.slice none 0 0) (.int .i64 0) (.int .i64 0) hg hLq (by omega)
  have hCP := copies_any kd N M (.slice p bs.length c) hg hLq (by omega)
  have HW0 := Lib.hid hW0
  have HW1 := Lib.hid hW1
  have HCP := Lib.hid hCP
  obtain ⟨sb, hsb⟩ : ∃ sb, sb = w.heap.size := ⟨_, rfl⟩
  have ha0 := halloc_at w (.cells #[.int .i64 kd, .slice p bs.length c, .int .i64 N, .int .i64 M] 44)
  have s0 := hcell_of ha0 0
  have s1 := hcell_of ha0 1
  have s2 := hcell_of ha0 2
  have s3 := hcell_of ha0 3
  simp only [List.getElem?_toArray, List.getElem?_cons_zero, List.getElem?_cons_succ] at s0 s1 s2 s3
  have m1 := (hm.addBox (.cells #[.int .i64 kd, .slice p bs.length c, .int .i64 N, .int .i64 M] 44)).back4
  rw [← hsb] at m1
  have hbx := m1.first
  dsimp only [Ent.box, houseO] at hbx
  have g0 := hcell_of hbx 0
  have g5 := hcell_of hbx 5
  have z5 := hfree_of hbx 5
  simp only [List.getElem?_toArray, List.getElem?_cons_zero, List.getElem?_cons_succ] at g0 g5
  have M1 := Lib.hid m1
  have HP := Lib.hid (And.intro hg (And.intro hJ (And.intro hkp (And.intro hsn hn))))
  have HSB := Lib.hid hsb
  have HR400 := Lib.hid (fun w => rest_any (w := w) N (m := 400) (by decide) (by decide))
  have HR5 := Lib.hid (fun w => rest_any (w := w) kd (m := 5) (by decide) (by decide))
  have HR2 := Lib.hid (fun w => rest_any (w := w) M (m := 2) (by decide) (by decide))
  have HR4 := Lib.hid (fun w => rest_any (w := w) M (m := 4) (by decide) (by decide))
  simp only [show ((400 : Nat) : Int) = 400 from rfl] at HR400
  simp only [show ((5 : Nat) : Int) = 5 from rfl] at HR5
  simp only [show ((2 : Nat) : Int) = 2 from rfl] at HR2
  simp only [show ((4 : Nat) : Int) = 4 from rfl] at HR4
  have ihl : (hs.length : Int) ≤ 60 := by omega
  clear hg hJ hkp hsn hm hsb m1 hbx hn hLq hW0 hW1 hCP ha0 hrb hbl
  go_enter Tryz.func27, Tryz.ntmps27
  go_wp2_with (first | (go_at_call 9; refine stop ?_))
  refine go ?_
  refine (HR400.out _).mono ?_
  rintro e w' ⟨kN, hkN, rfl, rfl⟩
  go_wp2_with (first | (go_at_call 9; refine stop ?_))
  refine go ?_
  refine (HR5.out _).mono ?_
  rintro e w' ⟨K, hK, rfl, rfl⟩
  have hK5 : K = 0 ∨ K = 1 ∨ K = 2 ∨ K = 3 ∨ K = 4 := by omega
  clear hK
  rcases hK5 with rfl | rfl | rfl | rfl | rfl
  · simp only [show ((0 : Nat) : Int) = 0 from rfl]
    clear g0 g5 z5
    go_wp2_with (first | (go_at_call 16; refine stop ?_))
    refine go ?_
    refine HW0.out.mono ?_
    rintro e w' ⟨rfl, hL⟩
    have HL := Lib.hid hL
    clear hL s0 s1 s2 s3
    go_wp2
    go_ret
    exact ⟨rfl, HL.out⟩
  · simp only [show ((1 : Nat) : Int) = 1 from rfl]
    clear g0 g5 z5
    go_wp2_with (first | (go_at_call 16; refine stop ?_))
    refine go ?_
    refine HW1.out.mono ?_
    rintro e w' ⟨rfl, hL⟩
    have HL := Lib.hid hL
    clear hL s0 s1 s2 s3
    go_wp2
    go_ret
    exact ⟨rfl, HL.out⟩
  · simp only [show ((2 : Nat) : Int) = 2 from rfl]
    obtain ⟨F1, v1, hraw1, hG1⟩ := M1.out.swap12.first
    have hcr := crash_any (kN : Int) (by omega) hraw1.disk
    obtain ⟨D1, hc1, hdn, hC⟩ := HP.out.2.1.crash kN
    rw [show ({ D := D, nm := nL, es := endsOf (hs.map LF.bytes), du := su, er := .nilIface } : Hs).D = D from rfl, hc1] at hcr
    have HCR := Lib.hid hcr
    have HC := Lib.hid hC
    have HRW := Lib.hid (And.intro hraw1 hG1)
    clear hraw1 hG1 hcr hc1 hdn hC g5 z5 s0 s1 s2 s3
    go_wp2_with (first | (go_at_call 63; refine stop ?_))
    refine go ?_
    refine HCR.out.mono ?_
    rintro e w2 ⟨rfl, hl2⟩
    obtain ⟨F2, hraw2, ev2⟩ := HRW.out.1.left hl2
    have m2 := M1.out.swap12.turn (y := Ent.house d j ⟨D1, nL, endsOf (hs.map LF.bytes), su, .nilIface⟩ (F2 ++ jbl j v1)) ⟨F2, v1, hraw2, rfl⟩ (good_house _ _ _ _) (by rw [HRW.out.2]; exact ev2)
    obtain ⟨F3, m3⟩ := m2.unhouse
    have hup := up_any m3.first
    have HUP := Lib.hid hup
    have hbx := m3.swap12.first
    dsimp only [Ent.box, houseO] at hbx
    have k0 := hcell_of hbx 0
    simp only [List.getElem?_toArray, List.getElem?_cons_zero, List.getElem?_cons_succ] at k0
    have M3 := Lib.hid m3
    clear hl2 hraw2 ev2 m2 m3 hup hbx g0
    go_wp2_with (first | (go_at_call 46; refine stop ?_))
    refine go ?_
    refine HUP.out.mono ?_
    rintro e w4 ⟨rfl, h4, v4⟩
    obtain ⟨F4, m4⟩ := M3.out.left ⟨F3, h4, v4⟩
    have m5 := m4.swap12
    have hbx := m5.first
    dsimp only [Ent.box, houseO] at hbx
    have g0 := hcell_of hbx 0
    simp only [List.getElem?_toArray, List.getElem?_cons_zero, List.getElem?_cons_succ] at g0
    have hsx := m5.get (x := Ent.box sb (.cells #[.int .i64 kd, .slice p bs.length c, .int .i64 N, .int .i64 M] 44)) (by simp)
    dsimp only [Ent.box] at hsx
    have e3 := hcell_of hsx 3
    simp only [List.getElem?_toArray, List.getElem?_cons_zero, List.getElem?_cons_succ] at e3
    rw [HSB.out] at e3
    have M5 := Lib.hid m5
    clear h4 v4 m4 m5 hbx hsx k0
    go_wp2_with (first | (go_at_call 9; refine stop ?_))
    refine go ?_
    refine (HR2.out _).mono ?_
    rintro e w' ⟨k2, hk2, rfl, rfl⟩
    by_cases hk0 : k2 = 0
    · subst hk0
      have hbx := M5.out.first
      have hrec : Recs _ (.slice hp hs.length hc) hs := M5.out.get (x := Ent.recs (.slice hp hs.length hc) hs) (by simp)
      have hwh := hwhole_any (last := []) (loose := kN) hbx hrec.rows (.inl ⟨rfl, rfl⟩) (by have := HP.out.2.1.su; rw [List.length_map] at this; exact this) (by omega) (by rw [List.append_nil]; exact HP.out.2.1.sml) (by omega)
      have hop := openw_crash HP.out.1 M5.out HP.out.2.1 HC.out HP.out.2.2.1 (by omega)
      obtain ⟨wn, hwn⟩ : ∃ wn, wn = wholeN (hs.map LF.bytes ++ []) su kN := ⟨_, rfl⟩
      rw [← hwn] at hwh hop
      have HWH := Lib.hid hwh
      have HOP := Lib.hid hop
      clear hbx hrec hwh hop hwn g0 e3 hk2
      (try simp only [show ((0 : Nat) : Int) = 0 from rfl])
      go_wp2_with (first | (go_at_call 47; refine HWH.out.mono ?_; rintro e w' ⟨rfl, rfl⟩) | (go_at_call 26; refine stop ?_))
      refine go ?_
      refine HOP.out.mono ?_
      rintro e w' ⟨rfl, hL⟩
      have HL := Lib.hid (hL.mono (show hs.length ≤ n + 1 by have := HP.out.2.2.2.1; omega))
      clear hL
      go_wp2
      go_ret
      exact ⟨rfl, HL.out⟩
    · have hkn : ((k2 : Int) == 0) = false := by rw [beq_eq_false_iff_ne]; omega
      have harm := arm_any 1 0 (by decide) (by decide) (by decide) M5.out.swap12.first
      rw [show D1.up.arm 1 0 = (0, { D1.up with steps := 1, keep := 0 }) from rfl] at harm
      have HARM := Lib.hid harm
      clear harm e3 hk0 hk2
      go_wp2_with (first | (go_at_call 29; refine stop ?_))
      refine go ?_
      refine HARM.out.mono ?_
      rintro e w6 ⟨rfl, h6, v6⟩
      obtain ⟨F6, m6⟩ := M5.out.swap12.left ⟨F4, h6, v6⟩
      have hop := openw_crash_armed HP.out.1 m6.swap12 HP.out.2.1 HC.out HP.out.2.2.1 (by omega)
      have HOP := Lib.hid hop
      clear h6 v6 m6 hop g0
      go_wp2_with (first | (go_at_call 26; refine stop ?_))
      refine go ?_
      refine HOP.out.mono ?_
      rintro e w' ⟨rfl, hL⟩
      have HL := Lib.hid (hL.mono (show hs.length ≤ n + 1 by have := HP.out.2.2.2.1; omega))
      clear hL
      go_wp2
      go_ret
      exact ⟨rfl, HL.out⟩
  · simp only [show ((3 : Nat) : Int) = 3 from rfl]
    have m2 := M1.out.setBox (i := 5) (v := .int .i64 (kN : Int)) rfl
    change Many W ((w.alloc (.cells #[.int .i64 kd, .slice p bs.length c, .int .i64 N, .int .i64 M] 44)).setCell ⟨hb, 5, none⟩ (.int .i64 (kN : Int))) (Ent.box hb (houseO d j (.slice hp hs.length hc) su (.slice none 0 0) (kN : Int)) :: _) at m2
    have hbx := m2.first
    dsimp only [Ent.box, houseO] at hbx
    have k0 := hcell_of hbx 0
    simp only [List.getElem?_toArray, List.getElem?_cons_zero, List.getElem?_cons_succ] at k0
    have hsx := m2.get (x := Ent.box sb (.cells #[.int .i64 kd, .slice p bs.length c, .int .i64 N, .int .i64 M] 44)) (by simp)
    dsimp only [Ent.box] at hsx
    have e3 := hcell_of hsx 3
    simp only [List.getElem?_toArray, List.getElem?_cons_zero, List.getElem?_cons_succ] at e3
    rw [HSB.out] at e3
    have m3 := m2.quiet ((Chg.refl (fun _ => False) _).drew)
    have M3 := Lib.hid m3
    clear m2 m3 hbx hsx s0 s1 s2 s3
    go_wp2
    refine Rx.ws_region (fun w' => w'.cell? ⟨hb, 0, none⟩ = some (.pointer (some ⟨d, 0, none⟩))) [(4, .r), (5, .r), (0, .h), (1, .h), (2, .h), (8, .h), (3, .h), (6, .e), (7, .r), (9, .e), (10, .r), (11, .r)] (by kernel_rfl) (by kernel_rfl) k0 (fun _ _ x _ _ h => (by cases x <;> exact h)) ?_
    iterate 2 (refine Rx.ws_q rfl rfl ?_; go_wp2; refine Rx.atS_mk ?_)
    iterate 5 (refine Rx.ws_h (v := ?_) rfl rfl ?_ ?_; rotate_left; (intro w' hS'; go_simp; try with_reducible rfl))
    refine Rx.ws_e rfl ?_
    go_wp2_with (first | (go_at_call 9; refine stop ?_))
    refine go ?_
    refine (HR4.out _).mono ?_
    rintro e w' ⟨k4, hk4, rfl, rfl⟩
    obtain ⟨s4, hs4⟩ : ∃ s4 : Nat, (1 : Int) + (k4 : Int) = (s4 : Int) := ⟨1 + k4, by omega⟩
    have hs4b : s4 ≤ 10 := (by omega)
    go_wp2
    refine ⟨(by exact k0), ?_⟩
    (refine Rx.ws_q rfl rfl ?_; go_wp2; refine Rx.atS_mk ?_)
    refine Rx.ws_e rfl ?_
    obtain ⟨F5, v5, hraw5, hG5⟩ := M3.out.swap12.first
    have harm := arm_any (s4 : Int) (kN : Int) (by omega) (by omega) (by omega) hraw5.disk
    obtain ⟨ha1, ha2⟩ := HP.out.2.1.armed s4 kN
    rw [show ({ D := D, nm := nL, es := endsOf (hs.map LF.bytes), du := su, er := .nilIface } : Hs).D = D from rfl, ha1] at harm
    have HARM := Lib.hid harm
    have HA2 := Lib.hid ha2
    have HRW := Lib.hid (And.intro hraw5 hG5)
    clear harm ha1 ha2 hraw5 hG5
    go_wp2_with (first | (go_at_call 29; refine stop ?_))
    refine go ?_
    refine HARM.out.mono ?_
    rintro e w6 ⟨rfl, h6, v6⟩
    obtain ⟨F6, hraw6, ev6⟩ := HRW.out.1.left ⟨F5, h6, v6⟩
    have m6 := M3.out.swap12.turn (y := Ent.house d j ⟨{ D with steps := s4, keep := (kN : Int) }, nL, endsOf (hs.map LF.bytes), su, .nilIface⟩ (F6 ++ jbl j v5)) ⟨F6, v5, hraw6, rfl⟩ (good_house _ _ _ _) (by rw [HRW.out.2]; exact ev6)
    have hbx := m6.swap12.first
    dsimp only [Ent.box, houseO] at hbx
    have u0 := hcell_of hbx 0
    simp only [List.getElem?_toArray, List.getElem?_cons_zero, List.getElem?_cons_succ] at u0
    have HU0 := Lib.hid u0
    have M6 := Lib.hid m6.swap12
    clear h6 v6 hraw6 ev6 m6 hbx u0
    go_wp2
    refine ⟨(by exact HU0.out), ?_⟩
    iterate 2 (refine Rx.ws_q rfl rfl ?_; go_wp2; refine Rx.atS_mk ?_)
    refine Rx.ws_nil ?_
    clear k0 e3
    go_wp2
    go_ret
    exact ⟨by simp, d, j, hp, hc, hs, _, _, su, kN, HA2.out, hkN, by have := HP.out.2.2.2.1; omega, Many.sub M6.out (.cons_cons _ (.cons_cons _ (.cons_cons _ (List.nil_sublist _))))⟩
  · simp only [show ((4 : Nat) : Int) = 4 from rfl]
    clear g0 g5 z5
    go_wp2_with (first | (go_at_call 64; refine stop ?_))
    refine go ?_
    refine HCP.out.mono ?_
    rintro e w' ⟨rfl, hL⟩
    have HL := Lib.hid (hL.mono (Nat.le_succ n))
    clear hL s0 s1 s2 s3
    go_wp2
    go_ret
    exact ⟨rfl, HL.out⟩
end
end Go.Proofs
