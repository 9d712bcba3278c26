/- Package disk's calls on one file: Sync, Cut, Remove, Size, Turn. Conditions: the disk lies as DRep says; numbers are of their kind. Copies of bytes (slices.Clone, the laws' own 'copied'), and package disk's Read and Append. Conditions: the disk lies as DRep says; the lengths are below 2^46. -/
import Derived.Test.YtaiaghfckhgnnaaDoorD3
namespace Go.Proofs
open Go.RowKit Go.Hp Go.Dm Go.Dr
set_option linter.unusedVariables false
set_option maxRecDepth 10000

section
variable {w : World} {d m : Nat} {D D' : Dk} {L : List Raw} {clock : Nat} {r : Raw} {F : List Nat} {nm : ByteArray}

/-- what the armed crash keeps -/
theorem keep_cell (h : DRaw w d m D.tick L clock) (ok : D.Ok) (hf : D.fires = true) : ∃ k : Nat, Hid (D.keep.toNat = k) ∧ w.cell? ⟨d, 5, none⟩ = some (.int .i64 (k : Int)) ∧ (k : Int) ≤ 9223372036854775807 := by
  obtain ⟨c0, c1, c2, c3, c4, c5, fz⟩ := h.cells
  have hs : D.steps = 1 := by simpa [Dk.fires] using hf
  have := ok.armed (by omega)
  have := ok.keepHi
  exact ⟨D.keep.toNat, rfl, by rw [c5]; show some (Value.int .i64 D.keep) = _; rw [Int.toNat_of_nonneg (by assumption)], by omega⟩

/-- counted, and crashed -/
theorem ev_crash {w1 w2 : World} {L' : List Raw} (k : Nat) (h : DRaw w d m D L clock) (hc1 : Chg (· = d) (w.drewN k) w1) (hc2 : Chg (· ∈ d :: m :: blks L) w1 w2) (h2 : DRaw w2 d m D' L' clock)
    (h3 : ∀ k ∈ d :: m :: blks L', k ∈ d :: m :: blks L) : DRep w2 d D' (d :: m :: blks L') ∧ Ev (d :: m :: blks L) (d :: m :: blks L') w w2 :=
  ⟨⟨m, L', clock, h2, rfl⟩, ⟨((Chg.refl (· ∈ d :: m :: blks L) w).drewN k).trans ((hc1.mono (fun k hk => .inl (by subst hk; simp))).trans hc2 (fun k hk => .inl hk)) (fun k hk => .inl hk), fun k hk => .inl (h3 k hk)⟩⟩

theorem look_pos {D : Dk} (h : D.look nm ≠ 0) : ((D.look nm : Int) != 0) = true := by
  rw [bne_iff_ne]; omega

/-- a call that the look refuses -/
theorem sync_no (hs : nm.size ≤ maxLen) (h : DRep w d D F) (hl : D.look nm ≠ 0) :
    Calls Tryd.prog 31 #[.pointer (some ⟨d, 0, none⟩), .string nm] w fun e w' => e = .returned (.int .i64 (D.look nm : Int)) ∧ ∃ n, w' = w.drewN n := by
  obtain ⟨m, L, clock, h, rfl⟩ := h
  have hp := look_pos hl
  have H := Lib.hid h
  have HL := Lib.hid hl
  clear h hl
  go_enter Tryd.func31, Tryd.ntmps31
  go_wp2_with (first | (go_at_call 42; refine (find_no nm hs H.out HL.out).mono ?_; rintro e w' ⟨rfl, n, rfl⟩))
  go_ret
  exact ⟨rfl, _, rfl⟩
theorem cut_no (k : Int) (hs : nm.size ≤ maxLen) (h : DRep w d D F) (hl : D.look nm ≠ 0) :
    Calls Tryd.prog 30 #[.pointer (some ⟨d, 0, none⟩), .string nm, .int .i64 k] w fun e w' => e = .returned (.int .i64 (D.look nm : Int)) ∧ ∃ n, w' = w.drewN n := by
  obtain ⟨m, L, clock, h, rfl⟩ := h
  have hp := look_pos hl
  have H := Lib.hid h
  have HL := Lib.hid hl
  clear h hl
  go_enter Tryd.func30, Tryd.ntmps30
  go_wp2_with (first | (go_at_call 42; refine (find_no nm hs H.out HL.out).mono ?_; rintro e w' ⟨rfl, n, rfl⟩))
  go_ret
  exact ⟨rfl, _, rfl⟩
theorem size_no (hs : nm.size ≤ maxLen) (h : DRep w d D F) (hl : D.look nm ≠ 0) :
    Calls Tryd.prog 27 #[.pointer (some ⟨d, 0, none⟩), .string nm] w fun e w' => e = .returned (.tuple #[.int .i64 0, .int .i64 0, .int .i64 (D.look nm : Int)]) ∧ ∃ n, w' = w.drewN n := by
  obtain ⟨m, L, clock, h, rfl⟩ := h
  have hp := look_pos hl
  have H := Lib.hid h
  have HL := Lib.hid hl
  clear h hl
  go_enter Tryd.func27, Tryd.ntmps27
  go_wp2_with (first | (go_at_call 42; refine (find_no nm hs H.out HL.out).mono ?_; rintro e w' ⟨rfl, n, rfl⟩))
  go_ret3
  exact ⟨rfl, _, rfl⟩
theorem read_no (a b : Int) (hs : nm.size ≤ maxLen) (h : DRep w d D F) (hl : D.look nm ≠ 0) :
    Calls Tryd.prog 28 #[.pointer (some ⟨d, 0, none⟩), .string nm, .int .i64 a, .int .i64 b] w fun e w' => e = .returned (.tuple #[.slice none 0 0, .int .i64 (D.look nm : Int)]) ∧ ∃ n, w' = w.drewN n := by
  obtain ⟨m, L, clock, h, rfl⟩ := h
  have hp := look_pos hl
  have H := Lib.hid h
  have HL := Lib.hid hl
  clear h hl
  go_enter Tryd.func28, Tryd.ntmps28
  go_wp2_with (first | (go_at_call 42; refine (find_no nm hs H.out HL.out).mono ?_; rintro e w' ⟨rfl, n, rfl⟩))
  go_ret2
  exact ⟨rfl, _, rfl⟩

theorem size_yes (hs : r.name.size ≤ maxLen) (h : DRaw w d m D L clock) (hl : D.look r.name = 0) (hr : r ∈ L) :
    Calls Tryd.prog 27 #[.pointer (some ⟨d, 0, none⟩), .string r.name] w fun e w' => e = .returned (.tuple #[.int .i64 (r.bytes.length : Int), .int .i64 (r.sure : Int), .int .i64 0]) ∧ ∃ n, w' = w.drewN n := by
  have hrok := h.raws r hr
  have q0 := hrok.cell0
  have q1 := hrok.cell1
  obtain ⟨p, c, hsv, hnc, hcm, hlen, hown⟩ := hrok.own
  rw [hsv] at q0
  have H := Lib.hid h
  have HL := Lib.hid hl
  have HR := Lib.hid hr
  clear h hl hr hrok hsv hnc hcm hlen hown
  go_enter Tryd.func27, Tryd.ntmps27
  go_wp2_with (first | (go_at_call 42; refine (find_yes hs H.out HL.out HR.out).mono ?_; rintro e w' ⟨rfl, nd, rfl⟩))
  refine Rx.wp_region_sched (fun _ => True) [(0, .r), (1, .r), (2, .r), (3, .r), (4, .r), (5, .r), (6, .r), (7, .r), (8, .r), (9, .r), (10, .r), (11, .r)] (by kernel_rfl) (by kernel_rfl) trivial (fun _ _ x _ _ h => (by cases x <;> exact h)) ?_
  iterate 12 (refine Rx.wpSched_q rfl rfl ?_; go_wp2; refine ⟨rfl, ?_⟩)
  refine Rx.wpSched_nil ?_
  go_wp2
  go_ret3
  exact ⟨rfl, nd + 1, rfl⟩

set_option maxHeartbeats 800000 in
theorem sync_crash (hs : r.name.size ≤ maxLen) (h : DRaw w d m D L clock) (hl : D.look r.name = 0) (hr : r ∈ L) (hf : D.fires = true) :
    Calls Tryd.prog 31 #[.pointer (some ⟨d, 0, none⟩), .string r.name] w fun e w' => e = .returned (.int .i64 110) ∧ ∃ F', DRep w' d (D.tick.lose D.keep.toNat) F' ∧ Ev (d :: m :: blks L) F' w w' := by
  have H := Lib.hid h
  have HL := Lib.hid hl
  have HR := Lib.hid hr
  clear h hl hr
  go_enter Tryd.func31, Tryd.ntmps31
  go_wp2_with (first | (go_at_call 42; refine (find_yes hs H.out HL.out HR.out).mono ?_; rintro e w' ⟨rfl, nd, rfl⟩) | (go_at_call 43; refine stop ?_))
  refine go ?_
  refine (crashes_any (H.out.drewN _)).mono ?_
  rintro e w1 ⟨rfl, h1, hc1⟩
  obtain ⟨kk, ek, k5, k6⟩ := keep_cell h1 H.out.ok hf
  have H1 := Lib.hid h1
  have HC1 := Lib.hid hc1
  clear h1 hc1
  go_wp2_with (first | (go_at_call 38; refine (lose_any kk k6 H1.out).mono ?_; rintro e w2 ⟨rfl, hc2, L', h2, h3⟩))
  go_ret
  rw [ek.out]
  exact ⟨rfl, _, ev_crash nd H.out HC1.out hc2 h2 h3⟩
/-- a change of one file behind a count -/
theorem ev_file {w1 w2 : World} {r' : Raw} {g : Fl → Fl} (k : Nat) (h : DRaw w d m D L clock) (h1 : DRaw w1 d m D.tick L clock) (hc1 : Chg (· = d) (w.drewN k) w1) (hr : r ∈ L)
    (hn : r'.name = r.name) (hfb : r'.f = r.f) (hb : r'.born = r.born) (hw : Chg (fun k => k ∈ r.blks ∨ k = d) w1 w2)
    (hh : w2.heap[d]? = some (.cells (headCells m D') 56 (0, 0))) (hr' : RawOk w2 r') (hs : ∀ b, sblk r'.sv = some b → sblk r.sv = some b)
    (hf : D'.files = upd r.name g D.files) (hg : g r.fl = r'.fl) (ok : D'.Ok) : ∃ F', DRep w2 d D' F' ∧ Ev (d :: m :: blks L) F' w w2 := by
  obtain ⟨e1, e2⟩ := h1.setFile hr hn hfb hb hw hh hr' (fun b hb => .inl (hs b hb)) hf hg ok
  have hsz := hc1.size
  have hsz : w.heap.size ≤ w1.heap.size := hsz
  refine ⟨_, ⟨m, _, clock, e1, rfl⟩, ⟨((Chg.refl (· ∈ d :: m :: blks L) w).drewN k).trans ((hc1.mono (fun k hk => .inl (by subst hk; simp))).trans hw ?_) (fun k hk => .inl hk), fun k hk => ?_⟩⟩
  · rintro k (hk | rfl)
    · exact .inl (by simp only [List.mem_cons]; exact .inr (.inr (List.mem_flatMap.2 ⟨r, hr, hk⟩)))
    · exact .inl (by simp)
  · exact (e2 k hk).imp id (fun h => Nat.le_trans hsz h)

set_option maxHeartbeats 800000 in
theorem sync_ok (hs : r.name.size ≤ maxLen) (h : DRaw w d m D L clock) (hl : D.look r.name = 0) (hr : r ∈ L) (hf : D.fires = false) :
    Calls Tryd.prog 31 #[.pointer (some ⟨d, 0, none⟩), .string r.name] w fun e w' => e = .returned (.int .i64 0) ∧ ∃ F', DRep w' d { D.tick with files := upd r.name (fun f => { f with sure := f.bytes.length }) D.files } F' ∧ Ev (d :: m :: blks L) F' w w' := by
  have hrok := h.raws r hr
  have H := Lib.hid h
  have HL := Lib.hid hl
  have HR := Lib.hid hr
  obtain ⟨p, c, hsv, hnc, hcm, hlen, hown⟩ := hrok.own
  have hsure : r.sure ≤ r.bytes.length := h.ok.sure r.fl (h.perm.subset (List.mem_map_of_mem hr))
  have hfd : r.f ≠ d := h.ne_d hr (by simp [Raw.blks])
  have hdf : d ≠ r.f := Ne.symm hfd
  have hcm' : (c : Int) ≤ 9223372036854775807 := by unfold maxLen at hcm; omega
  have hnc' : (r.bytes.length : Int) ≤ c := by omega
  have hsure' : (r.sure : Int) ≤ r.bytes.length := by omega
  have HSV := Lib.hid hsv
  have HOWN := Lib.hid hrok.own
  have p0 := hrok.cell0
  rw [hsv] at p0
  clear h hl hr hrok hsv hnc hcm hlen hown hsure
  go_enter Tryd.func31, Tryd.ntmps31
  go_wp2_with (first | (go_at_call 42; refine (find_yes hs H.out HL.out HR.out).mono ?_; rintro e w' ⟨rfl, nd, rfl⟩) | (go_at_call 43; refine stop ?_))
  refine go ?_
  refine (crashes_any (H.out.drewN _)).mono ?_
  rintro e w1 ⟨rfl, h1, hc1⟩
  clear p0
  have hrok1 := h1.raws r HR.out
  have q0 := hrok1.cell0
  have q1 := hrok1.cell1
  have qf := hrok1.free
  obtain ⟨g0, g1, g2, g3, g4, g5, gf⟩ := h1.cells
  rw [HSV.out] at q0
  have H1 := Lib.hid h1
  have HC1 := Lib.hid hc1
  clear h1 hc1 hrok1 g0 g3 g4 g5
  go_wp2
  go_ret
  refine ⟨rfl, ?_⟩
  refine ev_file (r' := { r with sure := r.bytes.length }) (g := fun f => { f with sure := f.bytes.length }) nd H.out H1.out HC1.out HR.out rfl rfl rfl ?_ ?_ ?_ (fun b hb => hb) rfl rfl ?_
  · exact (Chg.refl _ w1).setCell (p := ⟨r.f, 1, none⟩) (.inl (.inl (by simp [Raw.blks]))) _
  · have hu : total (upd r.name (fun f => { f with sure := f.bytes.length }) D.files) = total D.files := by
      have := total_upd (g := fun f => { f with sure := f.bytes.length }) H.out.ok.sorted.nodup (H.out.get_of HR.out)
      dsimp only at this
      omega
    rw [hset, if_neg hdf, H1.out.head]
    simp only [headCells, Dk.used, hu]; rfl
  · refine ⟨?_, OC.keep (H1.out.raws r HR.out).own fun b hb => ?_⟩
    · rw [hset, if_pos rfl, (H1.out.raws r HR.out).cells]; simp [objSet]
    · rw [hset, if_neg]; exact fun e => H.out.sblk_ne HR.out (e ▸ hb)
  · refine H1.out.ok.upd (fun f => rfl) (fun f hf _ => Nat.le_refl _) ?_
    have := total_upd (g := fun f => { f with sure := f.bytes.length }) H.out.ok.sorted.nodup (H.out.get_of HR.out)
    dsimp only at this
    have h2 := H.out.ok.used
    have h3 : D.used = total D.files := rfl
    show total (upd r.name _ D.files) ≤ D.limit
    omega

theorem upd_len {n : Nat} {f : Fl} (hg : get D.files nm = some f) (hk : n ≤ f.bytes.length) (ok : D.Ok) :
    total (upd nm (fun f => { f with bytes := f.bytes.take n, sure := min f.sure n }) D.files) = total D.files - (f.bytes.length - n) ∧ f.bytes.length ≤ total D.files := by
  have h1 := total_upd (g := fun f => { f with bytes := f.bytes.take n, sure := min f.sure n }) ok.sorted.nodup hg
  have h2 := get_le hg
  have h3 : (f.bytes.take n).length = n := by simp; omega
  simp only [h3] at h1
  omega

set_option maxHeartbeats 800000 in
theorem cut_crash (n : Nat) (hs : r.name.size ≤ maxLen) (h : DRaw w d m D L clock) (hl : D.look r.name = 0) (hr : r ∈ L) (hk : n ≤ r.bytes.length) (hf : D.fires = true) :
    Calls Tryd.prog 30 #[.pointer (some ⟨d, 0, none⟩), .string r.name, .int .i64 (n : Int)] w fun e w' => e = .returned (.int .i64 110) ∧ ∃ F', DRep w' d (D.tick.lose D.keep.toNat) F' ∧ Ev (d :: m :: blks L) F' w w' := by
  have hrok := h.raws r hr
  have q0 := hrok.cell0
  obtain ⟨p, c, hsv, hnc, hcm, hlen, hown⟩ := hrok.own
  rw [hsv] at q0
  have hn0 : ¬ (n : Int) < 0 := by omega
  have hn1 : ¬ (r.bytes.length : Int) < n := by omega
  clear hrok hsv hnc hcm hlen hown hk
  have H := Lib.hid h
  have HL := Lib.hid hl
  have HR := Lib.hid hr
  clear h hl hr
  go_enter Tryd.func30, Tryd.ntmps30
  go_wp2_with (first | (go_at_call 42; refine (find_yes hs H.out HL.out HR.out).mono ?_; rintro e w' ⟨rfl, nd, rfl⟩) | (go_at_call 43; refine stop ?_))
  refine go ?_
  refine (crashes_any (H.out.drewN _)).mono ?_
  rintro e w1 ⟨rfl, h1, hc1⟩
  obtain ⟨kk, ek, k5, k6⟩ := keep_cell h1 H.out.ok hf
  have H1 := Lib.hid h1
  have HC1 := Lib.hid hc1
  clear h1 hc1
  go_wp2_with (first | (go_at_call 38; refine (lose_any kk k6 H1.out).mono ?_; rintro e w2 ⟨rfl, hc2, L', h2, h3⟩))
  go_ret
  rw [ek.out]
  exact ⟨rfl, _, ev_crash nd H.out HC1.out hc2 h2 h3⟩

theorem cut_place (k : Int) (hs : r.name.size ≤ maxLen) (h : DRaw w d m D L clock) (hl : D.look r.name = 0) (hr : r ∈ L) (hk : k < 0 ∨ (r.bytes.length : Int) < k) :
    Calls Tryd.prog 30 #[.pointer (some ⟨d, 0, none⟩), .string r.name, .int .i64 k] w fun e w' => e = .returned (.int .i64 12) ∧ ∃ n, w' = w.drewN n := by
  have hrok := h.raws r hr
  have q0 := hrok.cell0
  obtain ⟨p, c, hsv, hnc, hcm, hlen, hown⟩ := hrok.own
  rw [hsv] at q0
  clear hrok hsv hnc hcm hlen hown
  have H := Lib.hid h
  have HL := Lib.hid hl
  have HR := Lib.hid hr
  clear h hl hr
  by_cases hn0 : k < 0
  · clear hk
    go_enter Tryd.func30, Tryd.ntmps30
    go_wp2_with (first | (go_at_call 42; refine (find_yes hs H.out HL.out HR.out).mono ?_; rintro e w' ⟨rfl, nd, rfl⟩))
    go_ret
    exact ⟨rfl, nd, rfl⟩
  · have hk' : (r.bytes.length : Int) < k := by omega
    clear hk
    go_enter Tryd.func30, Tryd.ntmps30
    go_wp2_with (first | (go_at_call 42; refine (find_yes hs H.out HL.out HR.out).mono ?_; rintro e w' ⟨rfl, nd, rfl⟩))
    go_ret
    exact ⟨rfl, nd, rfl⟩

set_option maxHeartbeats 1600000 in
theorem cut_ok (n : Nat) (hs : r.name.size ≤ maxLen) (h : DRaw w d m D L clock) (hl : D.look r.name = 0) (hr : r ∈ L) (hk : n ≤ r.bytes.length) (hf : D.fires = false) :
    Calls Tryd.prog 30 #[.pointer (some ⟨d, 0, none⟩), .string r.name, .int .i64 (n : Int)] w fun e w' => e = .returned (.int .i64 0) ∧ ∃ F', DRep w' d { D.tick with files := upd r.name (fun f => { f with bytes := f.bytes.take n, sure := min f.sure n }) D.files } F' ∧ Ev (d :: m :: blks L) F' w w' := by
  have hn0 : ¬ (n : Int) < 0 := by omega
  have hn1 : ¬ (r.bytes.length : Int) < n := by omega
  have hn2 : (n : Int) ≤ r.bytes.length := by omega
  obtain ⟨hu1, hu2⟩ := upd_len (h.get_of hr) hk h.ok
  have hu1 : total (upd r.name (fun f => { f with bytes := f.bytes.take n, sure := min f.sure n }) D.files) = total D.files - (r.bytes.length - n) := hu1
  have hu2 : r.bytes.length ≤ total D.files := hu2
  have hle := h.ok.used
  have hlim := h.ok.limit
  have hudef : D.used = total D.files := rfl
  have hb1 : (D.used : Int) ≤ 1099511627776 := by omega
  have hb2 : (r.bytes.length : Int) ≤ D.used := by omega
  have HK := Lib.hid hk
  have HU := Lib.hid hu1
  have HU2 := Lib.hid hu2
  clear hk hu1 hu2 hle hlim hudef
  have hrok := h.raws r hr
  have H := Lib.hid h
  have HL := Lib.hid hl
  have HR := Lib.hid hr
  obtain ⟨p, c, hsv, hnc, hcm, hlen, hown⟩ := hrok.own
  have hsure : r.sure ≤ r.bytes.length := h.ok.sure r.fl (h.perm.subset (List.mem_map_of_mem hr))
  have hfd : r.f ≠ d := h.ne_d hr (by simp [Raw.blks])
  have hdf : d ≠ r.f := Ne.symm hfd
  have hcm' : (c : Int) ≤ 9223372036854775807 := by unfold maxLen at hcm; omega
  have hnc' : (r.bytes.length : Int) ≤ c := by omega
  have hsure' : (r.sure : Int) ≤ r.bytes.length := by omega
  have HSV := Lib.hid hsv
  have HOWN := Lib.hid hrok.own
  have p0 := hrok.cell0
  rw [hsv] at p0
  clear h hl hr hrok hsv hnc hcm hlen hown hsure
  go_enter Tryd.func30, Tryd.ntmps30
  go_wp2_with (first | (go_at_call 42; refine (find_yes hs H.out HL.out HR.out).mono ?_; rintro e w' ⟨rfl, nd, rfl⟩) | (go_at_call 43; refine stop ?_))
  refine go ?_
  refine (crashes_any (H.out.drewN _)).mono ?_
  rintro e w1 ⟨rfl, h1, hc1⟩
  clear p0
  have hrok1 := h1.raws r HR.out
  have q0 := hrok1.cell0
  have q1 := hrok1.cell1
  have qf := hrok1.free
  obtain ⟨g0, g1, g2, g3, g4, g5, gf⟩ := h1.cells
  rw [HSV.out] at q0
  have H1 := Lib.hid h1
  have HC1 := Lib.hid hc1
  clear h1 hc1 hrok1 g0 g3 g4 g5
  have g1' : w1.cell? ⟨d, 1, none⟩ = some (.int .i64 (D.used : Int)) := g1
  clear g1
  go_wp2
  refine Rx.wp_region_sched (fun _ => True) [(0, .r), (1, .r), (2, .r), (3, .r), (4, .r), (5, .r), (6, .r), (7, .r), (8, .r), (9, .r), (10, .r), (11, .r), (12, .r), (13, .r), (14, .e)] (by kernel_rfl) (by kernel_rfl) trivial (fun _ _ x _ _ h => (by cases x <;> exact h)) ?_
  iterate 14 (refine Rx.wpSched_q rfl rfl ?_; go_wp2; refine ⟨rfl, ?_⟩)
  refine Rx.wpSched_e rfl ?_
  go_wp2
  refine ⟨trivial, ?_⟩
  refine Rx.wpSched_nil ?_
  go_wp2
  go_ret
  refine ⟨rfl, ?_⟩
  have hok := H.out.ok
  have hlen' : (r.bytes.take n).length = n := by have := HK.out; simp; omega
  refine ev_file (r' := { r with sv := .slice p n c, bytes := r.bytes.take n, sure := min r.sure n }) (g := fun f => { f with bytes := f.bytes.take n, sure := min f.sure n }) nd H.out H1.out HC1.out HR.out rfl rfl rfl ?_ ?_ ?_ (fun b hb => ?_) rfl rfl ?_
  · refine ((((Chg.refl _ w1).setCell (p := ⟨d, 1, none⟩) (.inl (.inr rfl)) _).setCell (p := ⟨r.f, 0, none⟩) (.inl (.inl (by simp [Raw.blks]))) _).setCell (p := ⟨r.f, 1, none⟩) (.inl (.inl (by simp [Raw.blks]))) _).drew
  · simp only [heap_drew, hset, if_neg hdf, if_true]
    rw [H1.out.head]
    have e : ((total D.files - (r.bytes.length - n) : Nat) : Int) = (D.used : Int) - ((r.bytes.length : Int) - (n : Int)) := by
      have := HK.out; have := HU2.out; have : D.used = total D.files := rfl; omega
    simp only [headCells, Dk.used, HU.out, e]
    rfl
  · refine ⟨?_, ?_⟩
    · simp only [heap_drew, hset, if_true, if_neg hfd]
      rw [(H1.out.raws r HR.out).cells]
      simp [objSet]; omega
    · have ho := (H1.out.raws r HR.out).own
      rw [HSV.out] at ho
      have ho := OB_reslice ho n HK.out
      refine OC.keep ho fun b hb => ?_
      have hb' : sblk r.sv = some b := by rw [HSV.out]; rw [← hb]; exact (sblk_reslice (.slice p r.bytes.length c) n).symm
      have h1 : b ≠ r.f := fun e => H.out.sblk_ne HR.out (e ▸ hb')
      have h2 : b ≠ d := H.out.ne_d HR.out (by simp [Raw.blks, hb'])
      simp only [heap_drew, hset, if_neg h1, if_neg h2]
  · rw [HSV.out, ← hb]; exact (sblk_reslice (.slice p r.bytes.length c) n).symm
  · refine H1.out.ok.upd (fun f => rfl) (fun f hf _ => ?_) ?_
    · have := hok.sure f hf
      show min f.sure n ≤ (f.bytes.take n).length
      simp; omega
    · show total (upd r.name _ D.files) ≤ D.limit
      rw [HU.out]
      have h2 := hok.used
      have h3 : D.used = total D.files := rfl
      omega

theorem del_total {f : Fl} (hg : get D.files nm = some f) (ok : D.Ok) : total (del nm D.files) = total D.files - f.bytes.length ∧ f.bytes.length ≤ total D.files := by
  have h1 := total_del ok.sorted.nodup hg
  have h2 := get_le hg
  omega

end
end Go.Proofs
namespace Go.Proofs
open Go.RowKit Go.Hp Go.Dm Go.Dr
set_option linter.unusedVariables false
set_option maxRecDepth 10000

theorem info_u8 : (Tryd.prog.info? 5).map (fun i => (i.zero, i.size, i.bytes)) = some (some (.int .u8 0), 1, 1) := by kernel_rfl

/-- fresh bytes are handed back, nothing that was there has changed -/
def FreshB (w : World) (l : List UInt8) (e : Ending) (w' : World) : Prop :=
  ∃ v, e = .returned v ∧ OB w' 5 v l ∧ Chg (fun _ => False) w w' ∧ ∀ b, sblk v = some b → w.heap.size ≤ b

section
variable {w : World} {d m : Nat} {D D' : Dk} {L : List Raw} {clock : Nat} {r : Raw} {F : List Nat} {nm : ByteArray}

/-- append of bytes -/
theorem wpList_append_bytes {ops : Array Oper} {rest : List Oper} {o : Oper} {a : Act} {Q : Exit → Act → World → Prop} (hg : o.guard = none) (s x : Operand)
    (hop : o.op = .call { callee := .builtin .append, args := #[s, x], argTypes := #[33, 33] }) {v y : Value} {l m : List UInt8} (hs : a.eval s = v) (hx : a.eval x = y)
    (hv : OB w 5 v l) (hy : RB w y m) (hlen : l.length + m.length ≤ 140737488355328)
    (h : ∀ pv lv cv w', OB w' 5 (.slice pv lv cv) (l ++ m) → Chg (fun b => sblk v = some b) w w' → (∀ b, sblk (.slice pv lv cv) = some b → sblk v = some b ∨ w.heap.size ≤ b) →
      (Value.slice pv lv cv = .slice none 0 0 ↔ v = .slice none 0 0 ∧ m.length = 0) → wpList Tryd.prog ops Q rest (a.put o.dst (.slice pv lv cv)) w') : wpList Tryd.prog ops Q (o :: rest) a w := by
  obtain ⟨i0, hi, hz0, hz1, hz2⟩ := info_parts info_u8
  refine wpList_append_oc hg s x 33 hop 5 i0 _ 1 1 Tryd.underlying33 hi hz0 hz1 hz2 rfl (by decide) hs hx hv hy (u8_one m) (by decide) (by omega) fun v' w' h1 h2 h3 h4 => ?_
  have h1' : OB w' 5 v' (l ++ m) := by
    show OC w' 1 5 v' (l ++ m).length ((l ++ m).map u8)
    rw [List.length_append, List.map_append]; exact h1
  obtain ⟨pv, cv, rfl, _⟩ := id h1'
  exact h pv _ cv w' h1' h2 h3 h4

theorem OB_nil (w : World) (E : TypeId) : OB w E (.slice none 0 0) [] := OC_nil w 1 E
theorem OB_zero (w : World) (E : TypeId) (p : Option Addr) : OB w E (.slice p 0 0) [] := OC_zero w 1 E p

theorem copied_any {v : Value} {l : List UInt8} (hl : l.length ≤ 140737488355328) (h : RB w v l) : Calls Tryd.prog 10 #[v] w (FreshB w l) := by
  have H := Lib.hid h
  have HL := Lib.hid hl
  clear h hl
  go_enter Tryd.func10, Tryd.ntmps10
  go_wp2_with (at_builtin; refine stop ?_)
  refine go ?_
  refine wpList_append_bytes rfl _ _ rfl (v := .slice none 0 0) rfl rfl (OB_nil w 5) H.out (by have := HL.out; simp; omega) ?_
  intro pv lv cv w' h1 h2 h3 h4
  have H1 := Lib.hid h1
  have H2 := Lib.hid h2
  have H3 := Lib.hid h3
  clear h1 h2 h3 h4
  go_wp2
  go_ret
  exact ⟨_, rfl, H1.out, H2.out.mono (fun k hk => by cases hk), fun b hb => (H3.out b hb).elim (fun h => by cases h) id⟩

theorem clone_any {v : Value} {l : List UInt8} (hl : l.length ≤ 140737488355328) (h : RB w v l) : Calls Tryd.prog 47 #[v] w (FreshB w l) := by
  have H := Lib.hid h
  obtain ⟨p, c, rfl, h1, h2, h3⟩ := h
  have HL := Lib.hid hl
  cases p with
  | none =>
    have hc : c = 0 := by
      by_cases hc : c = 0
      · exact hc
      · obtain ⟨_, _, _, _, _, hp, _⟩ := h3 hc; cases hp
    have hl0 : l = [] := List.eq_nil_of_length_eq_zero (by omega)
    subst hl0 hc
    clear hl h1 h2 h3
    have hnil : ∀ w, (binOp .eql 33 (.slice none 0 0) (.slice none 0 0)).run Tryd.prog w = .ok (.bool true) w := fun w => by
      simpa using Lib.run_eql_slice_nil (P := Tryd.prog) w 33 5 none 0 0 0 0 Tryd.underlying33
    go_enter Tryd.func47, Tryd.ntmps47
    go_wp2
    go_ret
    exact ⟨_, rfl, OB_nil w _, Chg.refl _ _, fun b hb => by cases hb⟩
  | some a =>
    clear hl h1 h2 h3
    have hnil : ∀ w, (binOp .eql 33 (.slice (some a) l.length c) (.slice none 0 0)).run Tryd.prog w = .ok (.bool false) w := fun w => by
      simpa using Lib.run_eql_slice_nil (P := Tryd.prog) w 33 5 (some a) l.length c 0 0 Tryd.underlying33
    go_enter Tryd.func47, Tryd.ntmps47
    go_wp2_with (at_builtin; refine stop ?_)
    refine go ?_
    refine wpList_append_bytes rfl _ _ rfl (v := .slice (some ⟨w.heap.size, 0, none⟩) 0 0) rfl rfl (OB_zero _ _ _) (RC.keep H.out fun b hb => halloc_lt (RC.lt H.out hb)) (by have := HL.out; simp; omega) ?_
    intro pv lv cv w' h1 h2 h3 h4
    have H1 := Lib.hid h1
    have H2 := Lib.hid h2
    have H3 := Lib.hid h3
    clear h1 h2 h3 h4 hnil
    go_wp2
    go_ret
    exact ⟨_, rfl, H1.out, (((Chg.refl (fun _ => False) w).alloc _).trans H2.out (fun k hk => by cases hk)), fun b hb => (H3.out b hb).elim (fun h => by cases h) (fun h => by simp at h; omega)⟩

/-- bytes of a slice, from off on, n of them -/
theorem RB_sub {v : Value} {l : List UInt8} {p : Option Addr} {c : Nat} (hv : v = .slice p l.length c) (h : RB w v l) (off n : Nat) (hn : off + n ≤ l.length) :
    RB w (.slice (if n = 0 then p else p.map (·.add (off * 1))) n n) ((l.drop off).take n) := by
  have hlen : ((l.drop off).take n).length = n := by simp; omega
  subst hv
  obtain ⟨p', c', he, h1, h2, h3⟩ := h
  cases he
  refine ⟨_, n, by rw [hlen], by omega, by simp, fun hc => ?_⟩
  obtain ⟨b, o, arr, t, fz, rfl, hh, hx⟩ := h3 (by omega)
  refine ⟨b, o + off, arr, t, fz, ?_, hh, fun i u hu => ?_⟩
  · rw [if_neg hc]
    simp [Addr.add]
  · have : (l.map u8)[off + i]? = some u := by
      rw [List.map_take, List.map_drop, List.getElem?_take] at hu
      split at hu
      · rw [List.getElem?_drop] at hu; exact hu
      · cases hu
    have := hx _ _ this
    rwa [← Nat.add_assoc] at this

set_option maxHeartbeats 1600000 in
theorem read_ok (a b : Nat) (hs : r.name.size ≤ maxLen) (h : DRaw w d m D L clock) (hl : D.look r.name = 0) (hr : r ∈ L) (hk : a + b ≤ r.bytes.length) :
    Calls Tryd.prog 28 #[.pointer (some ⟨d, 0, none⟩), .string r.name, .int .i64 (a : Int), .int .i64 (b : Int)] w fun e w' => ∃ v, e = .returned (.tuple #[v, .int .i64 0]) ∧
      OB w' 5 v ((r.bytes.drop a).take b) ∧ Chg (fun _ => False) w w' ∧ ∀ b, sblk v = some b → w.heap.size ≤ b := by
  have hrok := h.raws r hr
  have q0 := hrok.cell0
  obtain ⟨p, c, hsv, hnc, hcm, hlen, hown⟩ := hrok.own
  rw [hsv] at q0
  have hrb := RB_sub hsv hrok.own.rb a b hk
  have HRB := Lib.hid hrb
  have ha0 : ¬ (a : Int) < 0 := by omega
  have hb0 : ¬ (b : Int) < 0 := by omega
  have ha1 : (a : Int) ≤ r.bytes.length := by omega
  have hnc' : (r.bytes.length : Int) ≤ c := by omega
  have hb1 : ¬ (r.bytes.length : Int) - a < b := by omega
  have hab : (a : Int) + b ≤ c := by omega
  have hcm' : (c : Int) ≤ 9223372036854775807 := by unfold maxLen at hcm; omega
  have hlb : r.bytes.length ≤ 1099511627776 := by
    have h1 := get_le (h.get_of hr)
    have h1 : r.bytes.length ≤ total D.files := h1
    have h2 := h.ok.used
    have h3 := h.ok.limit
    have h4 : D.used = total D.files := rfl
    omega
  have HLB := Lib.hid hlb
  have H := Lib.hid h
  have HL := Lib.hid hl
  have HR := Lib.hid hr
  clear h hl hr hrok hsv hnc hcm hlen hown hk hrb hlb
  by_cases hb : b = 0
  · subst hb
    clear hb0 hb1
    go_enter Tryd.func28, Tryd.ntmps28
    go_wp2_with (first | (go_at_call 42; refine (find_yes hs H.out HL.out HR.out).mono ?_; rintro e w' ⟨rfl, nd, rfl⟩) | (go_at_call 47; refine stop ?_))
    refine go ?_
    refine (clone_any (l := (r.bytes.drop a).take 0) (by simp) (by simpa [RB] using RC.keep (w' := w.drewN nd) HRB.out fun _ _ => rfl)).mono ?_
    rintro e w' ⟨v, rfl, h1, h2, h3⟩
    have H1 := Lib.hid h1
    have H2 := Lib.hid h2
    have H3 := Lib.hid h3
    clear h1 h2 h3
    go_wp2
    go_ret2
    exact ⟨v, rfl, H1.out, (((Chg.refl (fun _ => False) w).drewN nd).trans H2.out (fun k hk => .inl hk)), H3.out⟩
  · have hb' : (1 : Int) ≤ b := by omega
    have hbn : ¬ (b = 0) := hb
    have hrb2 := HRB.out
    rw [if_neg hb, Nat.mul_one] at hrb2
    have HRB2 := Lib.hid hrb2
    have HB := Lib.hid hb
    clear hb hrb2 HRB
    go_enter Tryd.func28, Tryd.ntmps28
    go_wp2_with (first | (go_at_call 42; refine (find_yes hs H.out HL.out HR.out).mono ?_; rintro e w' ⟨rfl, nd, rfl⟩) | (go_at_call 47; refine stop ?_))
    refine go ?_
    refine (clone_any (l := (r.bytes.drop a).take b) (by have := HLB.out; simp; omega) (RC.keep (w' := w.drewN nd) HRB2.out fun _ _ => rfl)).mono ?_
    rintro e w' ⟨v, rfl, h1, h2, h3⟩
    have H1 := Lib.hid h1
    have H2 := Lib.hid h2
    have H3 := Lib.hid h3
    clear h1 h2 h3
    go_wp2
    go_ret2
    exact ⟨v, rfl, H1.out, (((Chg.refl (fun _ => False) w).drewN nd).trans H2.out (fun k hk => .inl hk)), H3.out⟩
end
end Go.Proofs
