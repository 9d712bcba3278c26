/- DiskLoaded's walk. Conditions: the script's ops and the other ops lie as OpsAt says. -/
import Derived.Test.YthnemjnepnbjpaaLn
import Derived.Test.YthnemjnepnbjpaaAl
namespace Go.Proofs
open Go.RowKit Go.Hp Go.Dm Go.Dr
set_option linter.unusedVariables false
set_option maxRecDepth 10000
theorem Many.sub2 {W w : World} {L L' : List Ent} (h : Many W w L) (hs : L'.Sublist L) : Many W w L' :=
  ⟨fun x hx => h.holds x (hs.subset hx), fun x hx => h.good x (hs.subset hx), fun x hx => h.new x (hs.subset hx), h.apart.sublist hs, h.chg⟩
theorem Many.last2 {W w : World} {L : List Ent} {x : Ent} (h : Many W w (L ++ [x])) : Many W w (x :: L) := h.perm (List.perm_append_comm (l₁ := L) (l₂ := [x]))
theorem Many.box2 {W w : World} {L : List Ent} (h : Many W w L) (o : Obj) : Many W (w.alloc o) (Ent.box w.heap.size o :: L) :=
  h.add (y := Ent.box w.heap.size o) ((Chg.refl _ w).alloc o) (halloc_at w o) (good_box _ _) fun k hk => by
    obtain rfl : k = w.heap.size := by simpa [Ent.box] using hk
    exact Nat.le_refl _
section
variable {w : World} {ops tops : List (OpP × Value)} {fv ov tv : Value}

set_option maxHeartbeats 4000000 in
theorem loaded_bad (n : Int) (hn : n < 0 ∨ 1099511627776 < n) :
    Calls Try.prog 14 #[.agg #[.int .i64 n, fv, ov], tv] w fun e w' => e = .returned (.bool true) ∧ Chg (fun _ => False) w w' := by
  have HN := Lib.hid fun W => new_bad (w := W) n hn
  by_cases h0 : n < 0
  · clear hn
    go_enter Try.func14, Try.ntmps14
    go_wp2_with (first | (go_at_call 16; refine (num_any _ _).mono ?_; rintro e w' ⟨rfl, rfl⟩) | (go_at_call 15; ((with_reducible refine (HN.out _).mono ?_); rintro e w' ⟨rfl, rfl⟩)) | (go_at_call 28; refine (awake_any _).mono ?_; rintro e w' ⟨rfl, hc⟩))
    go_ret
    exact ⟨rfl, ((Chg.refl (fun _ => False) w).alloc _).trans hc (fun k hk => hk.elim)⟩
  · have h1 : 1099511627776 < n := by omega
    clear hn
    go_enter Try.func14, Try.ntmps14
    go_wp2_with (first | (go_at_call 16; refine (num_any _ _).mono ?_; rintro e w' ⟨rfl, rfl⟩) | (go_at_call 15; ((with_reducible refine (HN.out _).mono ?_); rintro e w' ⟨rfl, rfl⟩)) | (go_at_call 28; refine (awake_any _).mono ?_; rintro e w' ⟨rfl, hc⟩))
    go_ret
    exact ⟨rfl, ((Chg.refl (fun _ => False) w).alloc _).trans hc (fun k hk => hk.elim)⟩

/-- own, then Load, of a disk's files: the same disk again -/
theorem own_files {D : Dk} {p : Option Addr} {n c : Nat} {l : List LF} (ok : D.Ok) (hk : NamesOk D.files) (hf : FilesAt w (.slice p n c) l) (hl : l.map LF.fl = D.files) (hN : l.length ≤ 1048576) :
    Calls Try.prog 40 #[.slice p n c] w fun e w' => ∃ v l', e = .returned v ∧ IFiles w' v l' ∧ l'.map LI.fi = D.files.map flFi ∧ Chg (fun _ => False) w w' :=
  (own_any (hf.given hl ok hk hN)).mono fun e w' ⟨v, l', h1, h2, h3, h4⟩ => ⟨v, l', h1, h2, by rw [h3, li_fi, hl], h4⟩
theorem load_again {D : Dk} {v : Value} {l' : List LI} (ok : D.Ok) (hk : NamesOk D.files) (h : IFiles w v l') (hl : l'.map LI.fi = D.files.map flFi) :
    Calls Try.prog 39 #[.int .i64 (D.limit : Int), v] w fun e w' => ∃ d F, e = .returned (.tuple #[.pointer (some ⟨d, 0, none⟩), .int .i64 0]) ∧ DRep w' d ⟨D.limit, D.files, false, 0, 0⟩ F ∧ Ev [] F w w' := by
  obtain ⟨p, c, rfl, -⟩ := id h.row
  have ha := ld_again ok hk
  refine (load_any ok.limit h).mono ?_
  rw [hl, ha.1]
  rintro e w' (⟨h1, -⟩ | ⟨-, d, F, h1, h2, h3⟩)
  · exact absurd rfl h1
  · rw [ha.2] at h2
    exact ⟨d, F, h1, h2, h3⟩

/-- ahead of a round of the first loop -/
structure LsRel (W wr : World) (d n k len : Nat) : Prop where
  le : k ≤ len
  ex : ∃ D F, Many W wr [Ent.disk d D F] ∧ D.limit = n ∧ NamesOk D.files ∧ D.files.length ≤ k

set_option maxHeartbeats 16000000 in
theorem loaded_main (n : Nat) (hn : n ≤ 1099511627776) (ho : OpsAt w ov ops) (ht : OpsAt w tv tops) :
    Calls Try.prog 14 #[.agg #[.int .i64 (n : Int), fv, ov], tv] w fun e w' => e = .returned (.bool true) ∧ Chg (fun _ => False) w w' := by
  obtain ⟨p, cap, rfl, hnc, -, -⟩ := id ho.row
  obtain ⟨p', cap', rfl, hnc', -, -⟩ := id ht.row
  have HWC := Lib.hid ((Chg.refl (fun _ => False) w).alloc (.cells #[.int .i64 (n : Int), fv, .slice p ops.length cap] 50))
  have HB0 := Lib.hid (halloc_at w (.cells #[.int .i64 (n : Int), fv, .slice p ops.length cap] 50))
  have HNEW := Lib.hid (new_ok (w := w.alloc (.cells #[.int .i64 (n : Int), fv, .slice p ops.length cap] 50)) n hn)
  have HO := Lib.hid ho
  have HT := Lib.hid ht
  have HLEN := Lib.hid ho.len
  have HTLEN := Lib.hid ht.len
  have HNC := Lib.hid hnc
  have HNC' := Lib.hid hnc'
  clear hn ho ht hnc hnc'
  go_enter Try.func14, Try.ntmps14
  go_wp2_with (first | (go_at_call 16; refine (num_any _ _).mono ?_; rintro e w' ⟨rfl, rfl⟩) | (go_at_call 15; refine stop ?_))
  refine go ?_
  refine HNEW.out.mono ?_
  rintro e w1 ⟨he, h1, v1⟩
  rw [halloc_size] at he h1 v1
  generalize w.heap.size + 1 + 1 = d at he h1 v1
  subst he
  have m1 := (Many.nil _).addDisk h1 v1
  generalize w.alloc (.cells #[.int .i64 (n : Int), fv, .slice p ops.length cap] 50) = W at m1 HB0 HWC HNEW
  have M1 := Lib.hid m1
  clear h1 v1 m1
  go_wp2_with (first | (go_at_call 16; refine (num_any _ _).mono ?_; rintro e w' ⟨rfl, rfl⟩))
  go_loopw [7] (fun i wr => ∃ k : Nat, i = .int .i64 (k : Int) ∧ LsRel W wr d n k ops.length) (fun i _ => ops.length - (Lib.intOf i).toNat)
  case atStart => exact ⟨0, rfl, Nat.zero_le _, _, _, M1.out, rfl, fun f hf => (by cases hf), Nat.le_refl _⟩
  case round =>
    obtain ⟨k, rfl, hle, D, F, hM, hlim, hnm, hfl⟩ := hrel
    have hbx := (hM.chg.block _ (hlt_of HB0.out) (fun h => h)).trans HB0.out
    have q0 := hcell_of hbx 0
    have q2 := hcell_of hbx 2
    simp only [List.getElem?_toArray, List.getElem?_cons_zero, List.getElem?_cons_succ] at q0 q2
    have HM := Lib.hid hM
    have HLIM := Lib.hid hlim
    have HNM := Lib.hid hnm
    have HFL := Lib.hid hfl
    clear hM hlim hnm hfl hbx
    by_cases hk : (k : Int) < ops.length
    · obtain ⟨b, off, y, py, cy, rfl, -, hy, hyv, -, hyok, -, p0, p1, p2, p3, p4⟩ := (HO.out.chg (HWC.out.trans HM.out.chg (fun k hk => hk.elim))).op (k := k) (by omega)
      have hyb0 := (HO.out.each y (List.mem_of_getElem? hy)).2
      have hnc : (ops.length : Int) ≤ cap := by have := HNC.out; omega
      have hk0 : (0 : Int) ≤ (k : Int) := by omega
      have hkl : (k : Int) + 1 ≤ 1099511627776 := by have := HLEN.out; omega
      rw [hyv] at p2
      have hdo := does_any hyok (by have := HFL.out; have := HLEN.out; omega) (HM.out.first) (RC.chg hyb0 (HWC.out.trans HM.out.chg (fun k hk => hk.elim)) fun _ _ h => h)
      simp only [OpP.val, opV, hyv] at hdo
      have HDO := Lib.hid hdo
      clear hyok hyb0 hyv hy hdo
      go_wp2_with (first | (go_at_call 29; refine stop ?_))
      refine go ?_
      refine HDO.out.mono ?_
      rintro e w2 ⟨v, rfl, hdid⟩
      have hfd := does_files_le D y.1
      have hnd := names_does HNM.out y.1
      obtain ⟨F2, xa, -, -, m2⟩ := HM.out.did hdid
      have M2 := Lib.hid m2.drop2
      have HFD := Lib.hid hfd
      have HND := Lib.hid hnd
      generalize (Dk.does D y.1).2 = D2 at M2 HFD HND
      have hok : D2.Ok := M2.out.first.ok
      have HOK := Lib.hid hok
      have hN2 : D2.files.length ≤ 1048576 := by have h1 := HFD.out.1; have h2 := HFL.out; have h3 := HLEN.out; omega
      have HN2 := Lib.hid hN2
      have HL2 := Lib.hid (show D2.limit = n from HFD.out.2.trans HLIM.out)
      clear hdid hfd hnd m2 hok hN2 p0 p1 p2 p3 p4 q0 q2
      go_wp2_with (first | (go_at_call 24; refine stop ?_))
      refine go ?_
      refine (files_any (by have := HN2.out; omega) M2.out.first).mono ?_
      rintro e w3 ⟨v3, l3, rfl, f1, f2, f3, f4⟩
      obtain ⟨p3, c3, rfl, -⟩ := id f1.sl
      have hl3 : l3.length ≤ 1048576 := by have h1 := congrArg List.length f2; simp only [List.length_map] at h1; have := HN2.out; omega
      have hown := fun U (hU : Chg (fun _ => False) w3 U) => own_files (w := U) HOK.out HND.out (f1.chg hU fun _ _ h => h) f2 hl3
      have M3 := Lib.hid (M2.out.quiet f4)
      have hbx3 := (M3.out.chg.block _ (hlt_of HB0.out) (fun h => h)).trans HB0.out
      have q3 := hcell_of hbx3 0
      simp only [List.getElem?_toArray, List.getElem?_cons_zero, List.getElem?_cons_succ] at q3
      have HF1 := Lib.hid f1
      have HF2 := Lib.hid f2
      have HBX3 := Lib.hid hbx3
      have HOWN := Lib.hid hown
      have HL3 := Lib.hid hl3
      clear f1 f2 f3 f4 hbx3 hown hl3
      go_wp2
      refine Rx.wp_region_sched (fun w' => w'.cell? ⟨w.heap.size, 0, none⟩ = some (.int .i64 (n : Int))) [(2, .r), (0, .h), (1, .h), (3, .e), (4, .e), (5, .r), (6, .r), (7, .r), (8, .r), (9, .r)] (by kernel_rfl) (by kernel_rfl) (q3) (fun _ _ x _ _ h => (by cases x <;> exact h)) ?_
      (refine Rx.wpSched_q rfl rfl ?_; go_wp2; refine ⟨rfl, ?_⟩)
      iterate 2 (refine Rx.wpSched_h (v := ?_) rfl rfl ?_ ?_; rotate_left; (intro w' hS'; go_simp; try with_reducible rfl))
      refine Rx.wpSched_e rfl ?_
      go_wp2_with (first | (go_at_call 40; refine stop ?_))
      refine go ?_
      refine (HOWN.out _ (by first | exact (Chg.refl (fun _ => False) _).drew | exact Chg.refl _ _)).mono ?_
      rintro e w4 ⟨v4, l4, rfl, i4, m4, c4⟩
      obtain ⟨p4, n4, cc4, rfl⟩ : ∃ p n c, v4 = .slice p n c := (by obtain ⟨p, c, e, -⟩ := id i4.row; exact ⟨p, _, c, e⟩)
      have c4 : Chg (fun _ => False) w3 w4 := (by first | exact ((Chg.refl (fun _ => False) _).drew).trans c4 (fun k hk => hk.elim) | exact c4)
      have M4 := Lib.hid (M3.out.quiet c4)
      have HF4 := Lib.hid (HF1.out.chg c4 fun _ _ h => h)
      have hbx4 := (c4.block _ (hlt_of HBX3.out) (fun h => h)).trans HBX3.out
      have K4 := Lib.hid ((hcell_of hbx4 0).trans rfl)
      have HBX4 := Lib.hid hbx4
      have HLD := Lib.hid fun U (hU : Chg (fun _ => False) w4 U) => load_again (w := U) HOK.out HND.out (i4.chg hU) m4
      rw [HL2.out] at HLD
      clear i4 m4 c4 hbx4
      go_wp2
      refine ⟨(by exact K4.out), ?_⟩
      refine Rx.wpSched_e rfl ?_
      go_wp2_with (first | (go_at_call 39; refine stop ?_))
      refine go ?_
      refine (HLD.out _ (by first | exact (Chg.refl (fun _ => False) _).drew | exact Chg.refl _ _)).mono ?_
      rintro e w5 ⟨c, FC, rfl, r5, v5⟩
      have ev5 : Ev [] FC w4 w5 := (by first | exact v5 | exact ((Ev.refl [] w4).drewN 1).trans v5)
      have M5 := Lib.hid (M4.out.addDisk r5 ev5)
      have HF5 := Lib.hid (HF4.out.chg (G := fun _ => False) (ev5.chg.mono fun k hk => .inl (by cases hk)) fun _ _ h => h)
      have K5 := Lib.hid ((hcell_of (((ev5.chg.mono (G := fun _ => False) fun k hk => .inl (by cases hk)).block _ (hlt_of HBX4.out) (fun h => h)).trans HBX4.out) 0).trans rfl)
      clear r5 v5 ev5
      go_wp2
      refine ⟨(by exact K5.out), ?_⟩
      iterate 5 (refine Rx.wpSched_q rfl rfl ?_; go_wp2; refine ⟨rfl, ?_⟩)
      refine Rx.wpSched_nil ?_
      go_wp2_with (first | (go_at_call 16; refine (num_any _ _).mono ?_; rintro e w' ⟨rfl, rfl⟩) | (go_at_call 22; refine (down_any M5.out.first).mono ?_; rintro e w' ⟨rfl, rfl⟩) | (go_at_call 24; refine stop ?_))
      refine go ?_
      refine (files_any (by have := HN2.out; show D2.files.length ≤ _; omega) M5.out.first).mono ?_
      rintro e w6 ⟨v6, l6, rfl, g1, g2, g3, g4⟩
      have M6 := Lib.hid (M5.out.quiet g4)
      have hsf := sameFiles_true (w := w6) (by have e1 := congrArg List.length g2; have := HN2.out; simp only [List.length_map] at e1; have e1 : l6.length = D2.files.length := e1; omega) g1 ((HF5.out).chg g4 fun _ _ h => h) (g2.trans HF2.out.symm)
      have HSF := Lib.hid hsf
      clear g1 g2 g3 g4 hsf
      go_wp2_with (first | (go_at_call 37; refine stop ?_))
      refine go ?_
      refine HSF.out.mono ?_
      rintro e w7 ⟨rfl, nd, rfl⟩
      have M7 := Lib.hid (M6.out.drewN nd)
      have hu1 := used_any M7.out.first
      have hu2 := used_any M7.out.swap12.first
      have hu : (Dk.used ⟨n, D2.files, false, 0, 0⟩) = D2.used := rfl
      rw [hu] at hu1
      generalize D2.used = u at hu1 hu2
      have HU1 := Lib.hid hu1
      have HU2 := Lib.hid hu2
      clear hu hu1 hu2
      go_wp2_with (first | (go_at_call 35; ((with_reducible refine HU1.out.mono ?_); rintro e w' ⟨rfl, rfl⟩)) | (go_at_call 35; ((with_reducible refine HU2.out.mono ?_); rintro e w' ⟨rfl, rfl⟩)))
      go_roundw
      case rel => exact ⟨k + 1, by go_num, by omega, D2, F2, M7.out.tail, HL2.out, HND.out, by have h1 := HFD.out.1; have h2 := HFL.out; omega⟩
      case measure => simp [Lib.intOf]; omega
    · have hup := fun U (hU : Chg (fun _ => False) wr U) => up_any (w := U) ((HM.out.quiet hU).first)
      have HUP := Lib.hid hup
      clear hup
      go_wp2_with (first | (go_at_call 23; refine stop ?_))
      refine go ?_
      refine (HUP.out _ (Chg.refl _ _)).mono ?_
      rintro e w2 ⟨rfl, u1, u2⟩
      have M2a := Lib.hid (HM.out.turn (y := Ent.disk d D.up F) u1 (good_disk _ _ _) u2)
      clear u1 u2
      go_wp2_with (first | (go_at_call 16; refine (num_any _ _).mono ?_; rintro e w' ⟨rfl, rfl⟩) | (go_at_call 28; refine stop ?_))
      refine go ?_
      refine (awake_any _).mono ?_
      rintro e w2b ⟨rfl, c2b⟩
      have M2 := Lib.hid (M2a.out.quiet c2b)
      have HND : Hid (NamesOk D.up.files) := Lib.hid HNM.out
      have HOK := Lib.hid (show D.up.Ok from M2.out.first.ok)
      have HN2 := Lib.hid (show D.up.files.length ≤ 1048576 by have h2 := HFL.out; have h3 := HLEN.out; show D.files.length ≤ _; omega)
      have HL2 := Lib.hid (show D.up.limit = n from HLIM.out)
      have HST := Lib.hid (And.intro (show D.up.down = false from rfl) (show D.up.steps = 0 from rfl))
      have hbx2 := (M2.out.chg.block _ (hlt_of HB0.out) (fun h => h)).trans HB0.out
      have q3 := hcell_of hbx2 0
      simp only [List.getElem?_toArray, List.getElem?_cons_zero, List.getElem?_cons_succ] at q3
      have HBX2 := Lib.hid hbx2
      generalize D.up = D2 at M2 HND HOK HN2 HL2 HST
      clear c2b hbx2 hk q0 q2
      go_wp2
      refine Rx.wp_region_sched (fun w' => w'.cell? ⟨w.heap.size, 0, none⟩ = some (.int .i64 (n : Int))) [(2, .r), (0, .h), (1, .h), (3, .e), (4, .e), (5, .e), (6, .r), (7, .r), (8, .r), (9, .r), (10, .r)] (by kernel_rfl) (by kernel_rfl) (q3) (fun _ _ x _ _ h => (by cases x <;> exact h)) ?_
      (refine Rx.wpSched_q rfl rfl ?_; go_wp2; refine ⟨rfl, ?_⟩)
      iterate 2 (refine Rx.wpSched_h (v := ?_) rfl rfl ?_ ?_; rotate_left; (intro w' hS'; go_simp; try with_reducible rfl))
      refine Rx.wpSched_e rfl ?_
      go_wp2_with (first | (go_at_call 24; refine stop ?_))
      refine go ?_
      refine (files_any (by have := HN2.out; omega) ((M2.out.drewN 1).first)).mono ?_
      rintro e w3 ⟨v3, l3, rfl, f1, f2, f3, f4⟩
      obtain ⟨p3, c3, rfl, -⟩ := id f1.sl
      have hl3 : l3.length ≤ 1048576 := (by have h1 := congrArg List.length f2; simp only [List.length_map] at h1; have := HN2.out; omega)
      have HOWN := Lib.hid fun U (hU : Chg (fun _ => False) w3 U) => own_files (w := U) HOK.out HND.out (f1.chg hU fun _ _ h => h) f2 hl3
      have M3 := Lib.hid ((M2.out.drewN 1).quiet f4)
      have hbx3 := (M3.out.chg.block _ (hlt_of HB0.out) (fun h => h)).trans HB0.out
      have K3 := Lib.hid ((hcell_of hbx3 0).trans rfl)
      have HBX3 := Lib.hid hbx3
      clear f1 f2 f3 f4 hbx3 hl3
      go_wp2
      refine ⟨(by exact K3.out), ?_⟩
      refine Rx.wpSched_e rfl ?_
      go_wp2_with (first | (go_at_call 40; refine stop ?_))
      refine go ?_
      refine (HOWN.out _ (by first | exact (Chg.refl (fun _ => False) _).drew | exact Chg.refl _ _)).mono ?_
      rintro e w4 ⟨v4, l4, rfl, i4, m4, c4⟩
      obtain ⟨p4, n4, cc4, rfl⟩ : ∃ p n c, v4 = .slice p n c := (by obtain ⟨p, c, e, -⟩ := id i4.row; exact ⟨p, _, c, e⟩)
      have c4 : Chg (fun _ => False) w3 w4 := (by first | exact ((Chg.refl (fun _ => False) _).drew).trans c4 (fun k hk => hk.elim) | exact c4)
      have M4 := Lib.hid (M3.out.quiet c4)
      have hbx4 := (c4.block _ (hlt_of HBX3.out) (fun h => h)).trans HBX3.out
      have K4 := Lib.hid ((hcell_of hbx4 0).trans rfl)
      have HBX4 := Lib.hid hbx4
      have HLD := Lib.hid fun U (hU : Chg (fun _ => False) w4 U) => load_again (w := U) HOK.out HND.out (i4.chg hU) m4
      rw [HL2.out] at HLD
      clear i4 m4 c4 hbx4
      go_wp2
      refine ⟨(by exact K4.out), ?_⟩
      refine Rx.wpSched_e rfl ?_
      go_wp2_with (first | (go_at_call 39; refine stop ?_))
      refine go ?_
      refine (HLD.out _ (by first | exact (Chg.refl (fun _ => False) _).drew | exact Chg.refl _ _)).mono ?_
      rintro e w5 ⟨c, FC, rfl, r5, v5⟩
      have ev5 : Ev [] FC w4 w5 := (by first | exact v5 | exact ((Ev.refl [] w4).drewN 1).trans v5)
      have M5 := Lib.hid (M4.out.addDisk r5 ev5)
      have K5 := Lib.hid ((hcell_of (((ev5.chg.mono (G := fun _ => False) fun k hk => .inl (by cases hk)).block _ (hlt_of HBX4.out) (fun h => h)).trans HBX4.out) 0).trans rfl)
      clear r5 v5 ev5
      go_wp2
      refine ⟨(by exact K5.out), ?_⟩
      iterate 5 (refine Rx.wpSched_q rfl rfl ?_; go_wp2; refine ⟨rfl, ?_⟩)
      refine Rx.wpSched_nil ?_
      go_wp2_with (first | (go_at_call 16; refine (num_any _ _).mono ?_; rintro e w' ⟨rfl, rfl⟩))
      generalize hD3 : (⟨n, D2.files, false, 0, 0⟩ : Dk) = D3 at *
      have HAL0 : Hid (Alike D2 D3) := Lib.hid (by
        rw [← hD3]
        exact ⟨rfl, HL2.out, HST.out.1, HST.out.2, fun h => absurd HST.out.2 h⟩)
      clear hD3
      go_loopw [13] (fun i wr => ∃ k : Nat, i = .int .i64 (k : Int) ∧ k ≤ tops.length ∧ ∃ X Y F G, Many W wr [Ent.disk c Y G, Ent.disk d X F] ∧ Alike X Y ∧ X.files.length ≤ 1048576 + k) (fun i _ => tops.length - (Lib.intOf i).toNat)
      case atStart => exact ⟨0, rfl, Nat.zero_le _, _, _, _, _, M5.out, HAL0.out, HN2.out⟩
      case round =>
        obtain ⟨k, rfl, hle2, X, Y, FX, FY, hM2, hA, hXl⟩ := hrel
        have HM2 := Lib.hid hM2
        have HA := Lib.hid hA
        have HXL := Lib.hid hXl
        clear hM2 hA hXl
        by_cases hk : (k : Int) < tops.length
        · obtain ⟨b, off, y, py, cy, rfl, hbl, hy, hyv, -, hyok, -, p0, p1, p2, p3, p4⟩ := (HT.out.chg HWC.out).op (k := k) (by omega)
          have hyb0 := (HT.out.each y (List.mem_of_getElem? hy)).2
          have hnc : (tops.length : Int) ≤ cap' := by have := HNC'.out; omega
          have hk0 : (0 : Int) ≤ (k : Int) := by omega
          have hkl : (k : Int) + 1 ≤ 1099511627776 := by have := HTLEN.out; omega
          rw [hyv] at p2
          have hdo := fun (U : World) (L : List Ent) (e : Nat) (E : Dk) (H : List Nat) (hm : Many W U L) (hN : E.files.length ≤ 1099511627776) (h : DRep U e E H) => does_any (w := U) (d := e) hyok hN h (RC.chg hyb0 (HWC.out.trans hm.chg (fun k hk => hk.elim)) fun _ _ h => h)
          simp only [OpP.val, opV, hyv] at hdo
          have cellAt := fun (U : World) (L : List Ent) (hm : Many W U L) (i : Nat) => World.cell?_of_block (a := ⟨b, i, none⟩) (hm.chg.block b hbl (fun h => h))
          have HDO := Lib.hid hdo
          have HCELL := Lib.hid cellAt
          have HPC := Lib.hid (And.intro p0 (And.intro p1 (And.intro p2 (And.intro p3 p4))))
          have hpost := HA.out.does y.1
          have HPOST := Lib.hid hpost
          clear hyok hyb0 hyv hy hdo cellAt hpost p0 p1 p2 p3 p4
          have p0 := (HCELL.out _ _ HM2.out _).trans HPC.out.1
          have p1 := (HCELL.out _ _ HM2.out _).trans HPC.out.2.1
          have p2 := (HCELL.out _ _ HM2.out _).trans HPC.out.2.2.1
          have p3 := (HCELL.out _ _ HM2.out _).trans HPC.out.2.2.2.1
          have p4 := (HCELL.out _ _ HM2.out _).trans HPC.out.2.2.2.2
          go_wp2_with (first | (go_at_call 29; refine stop ?_))
          refine go ?_
          refine (HDO.out _ _ _ _ _ HM2.out (by have := HXL.out; have := HTLEN.out; omega) HM2.out.swap12.first).mono ?_
          rintro e w6 ⟨v, rfl, hdid⟩
          obtain ⟨F', ⟨a, bv, fv2, l2⟩, hxa, rfl, m3⟩ := HM2.out.swap12.did hdid
          have hat : AV.At w6 ⟨a, bv, fv2, l2⟩ := m3.swap12.first
          obtain ⟨hatb, hatf, -⟩ := hat
          simp only at hatb hatf hxa
          obtain ⟨pb, cb, rfl, -⟩ := id hatb
          obtain ⟨pl, cl, rfl, -⟩ := id hatf.sl
          unfold AV.val ansV
          simp only
          have m4 := m3.box2 (.cells #[.int .i64 (a.e : Int), .int .i64 (a.n : Int), .int .i64 (a.m : Int), .slice pb a.b.length cb, .slice pl l2.length cl, .bool a.down] 58)
          have hdc : DRep (w6.alloc (.cells #[.int .i64 (a.e : Int), .int .i64 (a.n : Int), .int .i64 (a.m : Int), .slice pb a.b.length cb, .slice pl l2.length cl, .bool a.down] 58)) c Y FY := m4.get (x := Ent.disk c Y FY) (by simp)
          have HXA := Lib.hid hxa
          have M4b := Lib.hid m4
          have HDC := Lib.hid hdc
          clear p0 p1 p2 p3 p4 hdid hatb hatf m3 m4 hxa hdc
          have p0 := (HCELL.out _ _ M4b.out _).trans HPC.out.1
          have p1 := (HCELL.out _ _ M4b.out _).trans HPC.out.2.1
          have p2 := (HCELL.out _ _ M4b.out _).trans HPC.out.2.2.1
          have p3 := (HCELL.out _ _ M4b.out _).trans HPC.out.2.2.2.1
          have p4 := (HCELL.out _ _ M4b.out _).trans HPC.out.2.2.2.2
          go_wp2_with (first | (go_at_call 29; refine stop ?_))
          refine go ?_
          refine (HDO.out _ _ _ _ _ M4b.out (by rw [← HA.out.files]; have := HXL.out; have := HTLEN.out; omega) HDC.out).mono ?_
          rintro e w7 ⟨v, rfl, hdid⟩
          obtain ⟨G', ⟨a', bv', fv', l'⟩, hxa', rfl, m5⟩ := (Many.last2 (L := [_, _, _]) M4b.out).did hdid
          have hat' : AV.At w7 ⟨a', bv', fv', l'⟩ := m5.get (x := Ent.ans ⟨a', bv', fv', l'⟩) (by simp)
          obtain ⟨hatb', hatf', -⟩ := id hat'
          simp only at hatb' hatf' hxa'
          obtain ⟨pb', cb', rfl, -⟩ := id hatb'
          obtain ⟨pl', cl', rfl, -⟩ := id hatf'.sl
          unfold AV.val ansV
          simp only
          have m6 := m5.box2 (.cells #[.int .i64 (a'.e : Int), .int .i64 (a'.n : Int), .int .i64 (a'.m : Int), .slice pb' a'.b.length cb', .slice pl' l'.length cl', .bool a'.down] 58)
          have haa : a' = a := by rw [hxa', HXA.out]; exact HPOST.out.1.symm
          subst haa
          have hx1 := AV.At.ans (m6.get (x := Ent.ans ⟨a', .slice pb a'.b.length cb, .slice pl l2.length cl, l2⟩) (by simp))
          have hx2 := AV.At.ans (m6.get (x := Ent.ans ⟨a', .slice pb' a'.b.length cb', .slice pl' l'.length cl', l'⟩) (by simp))
          simp only [AV.val, ansV] at hx1 hx2
          have hal := fun U (hU : Chg (fun _ => False) (w7.alloc (.cells #[.int .i64 (a'.e : Int), .int .i64 (a'.n : Int), .int .i64 (a'.m : Int), .slice pb' a'.b.length cb', .slice pl' l'.length cl', .bool a'.down] 58)) U) =>
            alike_true (w := U) (by rw [HXA.out]; exact Nat.le_trans (does_ans_files X y.1) (by have := HXL.out; have := HTLEN.out; omega)) (hx1.chg hU fun _ _ h => h) (hx2.chg hU fun _ _ h => h)
          have HAL := Lib.hid hal
          have hz1 : (w7.alloc (.cells #[.int .i64 (a'.e : Int), .int .i64 (a'.n : Int), .int .i64 (a'.m : Int), .slice pb' a'.b.length cb', .slice pl' l'.length cl', .bool a'.down] 58)).heap[w6.heap.size]? = some (.cells #[.int .i64 (a'.e : Int), .int .i64 (a'.n : Int), .int .i64 (a'.m : Int), .slice pb a'.b.length cb, .slice pl l2.length cl, .bool a'.down] 58 (0, 0)) := m6.get (x := Ent.box w6.heap.size _) (by simp)
          have z0 := hcell_of hz1 0
          have z1 := hcell_of hz1 1
          have z2 := hcell_of hz1 2
          have z3 := hcell_of hz1 3
          have z4 := hcell_of hz1 4
          have z5 := hcell_of hz1 5
          simp only [List.getElem?_toArray, List.getElem?_cons_zero, List.getElem?_cons_succ] at z0 z1 z2 z3 z4 z5
          have M6 := Lib.hid m6
          clear hdid hat' hatb' hatf' hxa' m5 m6 hx1 hx2 hal hz1 p0 p1 p2 p3 p4
          go_wp2_with (first | (go_at_call 36; refine stop ?_))
          refine go ?_
          refine (HAL.out _ (Chg.refl _ _)).mono ?_
          rintro e w8 ⟨rfl, hc8⟩
          have m7 := M6.out.quiet hc8
          have M7 := Lib.hid (m7.sub2 (L' := [Ent.disk c (Dk.does Y y.1).2 G', Ent.disk d (Dk.does X y.1).2 F']) (.cons _ (.cons_cons _ (.cons _ (.cons _ (.cons_cons _ (.cons _ .slnil)))))))
          clear hc8 m7
          go_wp2
          go_roundw
          case rel => exact ⟨k + 1, by go_num, by omega, _, _, F', G', M7.out, HPOST.out.2, by have h1 := (does_files_le X y.1).1; have h2 := HXL.out; omega⟩
          case measure => simp [Lib.intOf]; omega
        · have hff : X.files.length ≤ 1099511627776 := by have := HXL.out; have := HTLEN.out; omega
          have HFF := Lib.hid hff
          clear hff
          go_wp2_with (first | (go_at_call 24; refine stop ?_))
          refine go ?_
          refine (files_any HFF.out HM2.out.swap12.first).mono ?_
          rintro e w6 ⟨v6, l6, rfl, f1, f2, f3, f4⟩
          have F1 := Lib.hid f1
          have F2' := Lib.hid f2
          have M6 := Lib.hid (HM2.out.quiet f4)
          clear f1 f2 f3 f4
          go_wp2_with (first | (go_at_call 24; refine stop ?_))
          refine go ?_
          refine (files_any (by rw [← HA.out.files]; exact HFF.out) M6.out.first).mono ?_
          rintro e w7 ⟨v7, l7, rfl, g1, g2, g3, g4⟩
          have hsf := sameFiles_true (w := w7) (by have e1 := congrArg List.length F2'.out; have := HFF.out; simp at e1; omega) (F1.out.chg g4 fun _ _ h => h) g1 (F2'.out.trans (HA.out.files.trans g2.symm))
          have HSF := Lib.hid hsf
          have M7 := Lib.hid (M6.out.quiet g4)
          clear g1 g2 g3 g4 hsf
          go_wp2_with (first | (go_at_call 37; refine HSF.out.mono ?_; rintro e w' ⟨rfl, nd, rfl⟩))
          go_ret
          exact ⟨rfl, (HWC.out.trans M7.out.chg (fun k hk => hk.elim)).drewN nd⟩
end
end Go.Proofs
