/- The document's disk: Load. Conditions: the files lie as IFiles says. -/
import Derived.Test.YthnemjnepnbjpaaLc
namespace Go.Proofs
open Go.RowKit Go.Hp Go.Dm Go.Dr
set_option linter.unusedVariables false
set_option maxRecDepth 10000

section
variable {w w' : World} {l : List LI}

/-- the disk while it is loaded: no limit but the greatest -/
def ldD (fs : List Fl) : Dk := ⟨1099511627776, sortL fs, false, 0, 0⟩
theorem ldOk {n : Nat} {fs : List Fl} (hn : n ≤ 1099511627776) (h : (fs.map (·.name)).Nodup) (hs : ∀ f ∈ fs, f.sure ≤ f.bytes.length) (ht : total fs ≤ n) : (⟨n, sortL fs, false, 0, 0⟩ : Dk).Ok :=
  { sorted := sortL_sorted h, sure := fun f hf => hs f ((sortL_perm fs).subset hf), used := by show total (sortL fs) ≤ n; rw [sortL_total]; omega, limit := hn, steps := by show 0 ≤ _; omega, keepLo := by show _ ≤ (0 : Int); omega, keepHi := by show (0 : Int) ≤ _; omega, armed := fun h => absurd rfl h }

/-- ahead of a round of Load -/
structure RlRel (w wr : World) (n : Nat) (l : List LI) (r j : Nat) (fs : List Fl) (G : List Nat) : Prop where
  rep : RRepL wr r (n : Int) (ldD fs) G
  go : ldGo [] ((l.map LI.fi).take j) = (0, fs)
  names : (fs.map (·.name)).Nodup
  low : ∀ k ∈ G, w.heap.size ≤ k
  chg : Chg (fun _ => False) w wr
  tot : total fs ≤ 1099511627776
  sure : ∀ f ∈ fs, f.sure ≤ f.bytes.length
  len : fs.length = j

set_option maxHeartbeats 4000000 in
theorem rload_any {n : Nat} {pi : Option Addr} {ni ci : Nat} (hn : n ≤ 1099511627776) (h : IFiles w (.slice pi ni ci) l) :
    Calls Try.prog 61 #[.int .i64 (n : Int), .slice pi ni ci] w fun e w' =>
      ((ldAll n (l.map LI.fi)).1 ≠ 0 ∧ e = .returned (.tuple #[.pointer none, .int .i64 ((ldAll n (l.map LI.fi)).1 : Int)]) ∧ Chg (fun _ => False) w w') ∨
      ((ldAll n (l.map LI.fi)).1 = 0 ∧ ∃ r G, e = .returned (.tuple #[.pointer (some ⟨r, 0, none⟩), .int .i64 0]) ∧ RRep w' r ⟨n, sortL (ldAll n (l.map LI.fi)).2, false, 0, 0⟩ G ∧ Ev [] G w w') := by
  obtain ⟨rfl, hlc, hlen⟩ : ni = l.length ∧ l.length ≤ ci ∧ l.length ≤ 1048576 := by
    obtain ⟨p', c', he, hnc, -⟩ := id h.row
    obtain ⟨rfl, rfl, rfl⟩ : pi = p' ∧ ni = l.length ∧ ci = c' := by simpa only [Value.slice.injEq] using he
    exact ⟨rfl, hnc, h.len⟩
  have hleni : (l.length : Int) ≤ 1048576 := by omega
  have hlci : (l.length : Int) ≤ ci := by omega
  have hni : (n : Int) ≤ 1099511627776 := by omega
  have hnew := rnew_ok (w := w) n hn
  have H := Lib.hid h
  have HLEN := Lib.hid hlen
  have HN := Lib.hid hn
  have HNEW := Lib.hid hnew
  clear h hlen hlc hnew hn
  go_enter Try.func61, Try.ntmps61
  go_wp2_with (first | (go_at_call 62; refine stop ?_))
  refine go ?_
  refine HNEW.out.mono ?_
  rintro e w1 ⟨rfl, ⟨K0, v0, l0, hr0, hF0⟩, hev0⟩
  have hst : RlRel w w1 n l w.heap.size 0 [] (w.heap.size :: lrblk v0 l0) := by
    refine { rep := ⟨K0, v0, l0, { head := hr0.head, sl := hr0.sl, each := hr0.each, off := hr0.off, files := hr0.files, ok := ldOk (Nat.le_refl _) List.nodup_nil (fun f hf => (by cases hf)) (Nat.zero_le _), keep := hr0.keep }, rfl⟩, go := rfl, names := List.nodup_nil, low := fun k hk => ?_, chg := hev0.chg.mono fun k hk => .inl (by cases hk), tot := by simp [total], sure := fun f hf => (by cases hf), len := rfl }
    rw [← hF0] at hk
    obtain rfl : k = w.heap.size := by simpa using hk
    exact Nat.le_refl _
  generalize w.heap.size :: lrblk v0 l0 = G0 at hst
  generalize w.heap.size = r at hst ⊢
  have HST := Lib.hid hst
  clear hr0 hF0 hev0 hst
  go_wp2
  go_loopw [8, 9] (fun lv i wr => ∃ (j : Nat) (fs : List Fl) (G : List Nat), lv = .int .i64 ((n : Int) - (total fs : Int)) ∧ i = .int .i64 (j : Int) ∧ j ≤ l.length ∧ RlRel w wr n l r j fs G) (fun _ i _ => l.length - (Lib.intOf i).toNat)
  case atStart => exact ⟨0, [], G0, by simp [total], rfl, Nat.zero_le _, HST.out⟩
  case round =>
    obtain ⟨j, fs, G, rfl, rfl, hj, hR⟩ := hrel
    have htb : (total fs : Int) ≤ 1099511627776 := by have h1 := hR.tot; have h2 := HLEN.out; omega
    have ht0 : (0 : Int) ≤ (total fs : Int) := by omega
    have hn0 : (0 : Int) ≤ (n : Int) := by omega
    have HR := Lib.hid hR
    have H1 := Lib.hid (H.out.chg hR.chg)
    clear hR
    by_cases hjl : (j : Int) < l.length
    · obtain ⟨b, off, x, he, -, -, hbl, hx, hxo, hrb, z0, z1, z2⟩ := H1.out.file (k := j) (by omega)
      subst he
      have hj0 : (0 : Int) ≤ (j : Int) := by omega
      have hxf : (l.map LI.fi)[j]? = some x.fi := by rw [List.getElem?_map, hx]; rfl
      have htk := ldGo_take HR.out.go hxf
      have e2 : x.sv = .slice x.p x.bytes.length x.cap := rfl
      rw [e2] at z1 hrb
      have hat := halloc_at wr (.cells #[.string x.name, .slice x.p x.bytes.length x.cap, .int .i64 x.sure] 41)
      have q0 := hcell_of hat 0
      have q1 := hcell_of hat 1
      have q2 := hcell_of hat 2
      simp only [List.getElem?_toArray, List.getElem?_cons_zero, List.getElem?_cons_succ] at q0 q1 q2
      have hrep : RRepL (wr.alloc (.cells #[.string x.name, .slice x.p x.bytes.length x.cap, .int .i64 x.sure] 41)) r (n : Int) (ldD fs) G := by
        obtain ⟨K, v, l1, hr, hG⟩ := HR.out.rep
        exact ⟨K, v, l1, hr.keepW fun k hk => halloc_lt (hr.lt k hk), hG⟩
      have hch := HR.out.chg.alloc (.cells #[.string x.name, .slice x.p x.bytes.length x.cap, .int .i64 x.sure] 41)
      have hnm := rnamed_any x.name (wr.alloc (.cells #[.string x.name, .slice x.p x.bytes.length x.cap, .int .i64 x.sure] 41)) hxo.1
      have hfl := rfile_anyL (nm := x.name) (by show (sortL fs).length ≤ _; rw [sortL_len, HR.out.len]; have := HLEN.out; omega) hrep
      rw [show (ldD fs).files = sortL fs from rfl, sortL_get HR.out.names] at hfl
      have HAT := Lib.hid hat
      have HTK := Lib.hid htk
      have HXO := Lib.hid hxo
      have HX := Lib.hid hx
      have HRB := Lib.hid hrb
      have HCH := Lib.hid hch
      have HREP := Lib.hid hrep
      have HFL := Lib.hid hfl
      clear hxf htk hxo hx hrb hch e2 hrep hfl hat
      by_cases hok : okName x.name = true
      · rw [hok] at hnm
        have HNM := Lib.hid hnm
        clear hnm
        go_wp2_with (first | (go_at_call 88; refine HNM.out.mono ?_; rintro e w' ⟨rfl, rfl⟩) | (go_at_call 89; refine stop ?_))
        refine go ?_
        refine HFL.out.mono ?_
        rintro e w2 ⟨v2, rfl, hfi, c2⟩
        rcases hg : Dm.get fs x.name with _ | f
        · rw [hg] at hfi
          obtain rfl : v2 = fileV x.name false none 0 0 0 := hfi
          have hc3 := c2.alloc (.cells #[.string x.name, .bool false, .slice none 0 0, .int .i64 0] 130)
          have ht3 := (hc3.block _ (hlt_of HAT.out) (fun h => h)).trans HAT.out
          have q3 := hcell_of ht3 2
          have q4 := hcell_of ht3 1
          have q5 := hcell_of ht3 0
          simp only [List.getElem?_toArray, List.getElem?_cons_zero, List.getElem?_cons_succ] at q3 q4 q5
          have HC3 := Lib.hid hc3
          have HT3 := Lib.hid ht3
          have HCW := Lib.hid (HCH.out.trans hc3 fun _ h => h.elim)
          have HG := Lib.hid hg
          clear hc3 ht3 c2 hg
          unfold fileV
          by_cases hs1 : x.sure < 0
          · have he : ldErr fs x.fi = 12 := by unfold ldErr; rw [if_pos (show okName x.fi.name = true from hok), show Dm.get fs x.fi.name = none from HG.out]; exact if_pos (.inl hs1)
            have HA := Lib.hid (ldAll_err HN.out (HTK.out.2 (by rw [he]; simp)) (by rw [he]; simp))
            rw [he] at HA
            clear he
            go_wp2
            go_ret2
            rw [HA.out]
            exact .inl ⟨by simp, rfl, HCW.out⟩
          · by_cases hs2 : (x.bytes.length : Int) < x.sure
            · have he : ldErr fs x.fi = 12 := by unfold ldErr; rw [if_pos (show okName x.fi.name = true from hok), show Dm.get fs x.fi.name = none from HG.out]; exact if_pos (.inr hs2)
              have HA := Lib.hid (ldAll_err HN.out (HTK.out.2 (by rw [he]; simp)) (by rw [he]; simp))
              rw [he] at HA
              clear he
              go_wp2
              go_ret2
              rw [HA.out]
              exact .inl ⟨by simp, rfl, HCW.out⟩
            · have he : ldErr fs x.fi = 0 := by unfold ldErr; rw [if_pos (show okName x.fi.name = true from hok), show Dm.get fs x.fi.name = none from HG.out]; exact if_neg (fun h => h.elim hs1 hs2)
              have HE0 := Lib.hid he
              have HA := Lib.hid (HTK.out.1 he)
              have hxl : (x.bytes.length : Int) ≤ 1099511627776 := by have := HXO.out.2.1; omega
              have hcl := fun U (hU : Chg (fun _ => False) (w2.alloc (.cells #[.string x.name, .bool false, .slice none 0 0, .int .i64 0] 130)) U) => rcopied_any (w := U) (l := x.bytes) (by have := HXO.out.2.1; omega) (RC.chg (RC.chg HRB.out (((Chg.refl (fun _ => False) wr).alloc (.cells #[.string x.name, .slice x.p x.bytes.length x.cap, .int .i64 x.sure] 41)).trans HC3.out fun _ h => h.elim) fun _ _ h => h) hU fun _ _ h => h)
              have HCL := Lib.hid hcl
              have HSU := Lib.hid (show ((x.sure.toNat : Nat) : Int) = x.sure from Int.toNat_of_nonneg (by omega))
              clear he hcl
              go_wp2
              refine Rx.wp_region_sched (fun w' => w'.cell? ⟨wr.heap.size, 0, none⟩ = some (.string x.name) ∧ w'.cell? ⟨wr.heap.size, 2, none⟩ = some (.int .i64 x.sure)) [(3, .r), (4, .r), (0, .h), (1, .h), (6, .h), (2, .h), (7, .h), (5, .e), (8, .r), (9, .e)] (by kernel_rfl) (by kernel_rfl) (⟨q5, q3⟩) (fun _ _ x _ _ h => (by cases x <;> exact h)) ?_
              iterate 2 (refine Rx.wpSched_q rfl rfl ?_; go_wp2; refine ⟨rfl, ?_⟩)
              iterate 5 (refine Rx.wpSched_h (v := ?_) rfl rfl ?_ ?_; rotate_left; (intro w' hS'; go_simp; try with_reducible rfl))
              refine Rx.wpSched_e rfl ?_
              go_wp2_with (first | (go_at_call 91; refine stop ?_))
              refine go ?_
              refine (HCL.out _ (by first | exact (Chg.refl (fun _ => False) _).drew | exact Chg.refl _ _)).mono ?_
              rintro e w4 ⟨v4, rfl, o4, c4, n4⟩
              obtain ⟨p4, l4, cc4, rfl⟩ : ∃ p l c, v4 = .slice p l c := (by obtain ⟨p3, cc3, e, -⟩ := id o4; exact ⟨_, _, _, e⟩)
              obtain rfl : l4 = x.bytes.length := OB_len o4
              have c4 : Chg (fun _ => False) (w2.alloc (.cells #[.string x.name, .bool false, .slice none 0 0, .int .i64 0] 130)) w4 := (by first | exact ((Chg.refl (fun _ => False) _).drew).trans c4 (fun k hk => hk.elim) | exact c4)
              have T4 := Lib.hid ((c4.block _ (hlt_of HT3.out) (fun h => h)).trans HT3.out)
              have K4 := Lib.hid (And.intro ((hcell_of T4.out 0).trans rfl) ((hcell_of T4.out 2).trans rfl))
              have CW4 := Lib.hid (HC3.out.trans c4 fun _ h => h.elim)
              have R4 : Hid (RRepL w4 r (n : Int) (ldD fs) G) := Lib.hid (by
                obtain ⟨K, v, l1, hr, hG⟩ := HREP.out
                exact ⟨K, v, l1, hr.keepW fun k hk => CW4.out.block k (hr.lt k hk) (fun h => h), hG⟩)
              have O4 := Lib.hid o4
              have N4 := Lib.hid n4
              have hrlt : r < (wr.alloc (.cells #[.string x.name, .slice x.p x.bytes.length x.cap, .int .i64 x.sure] 41)).heap.size := (by obtain ⟨K, v, l1, hr, hG⟩ := HREP.out; exact hr.lt r (by simp))
              have hlen4 : sortL (fs ++ [x.fi.fl]) = ins x.fi.fl (sortL fs) := sortL_snoc _ _
              have hq : storeL (RF.fl ⟨x.name, p4, cc4, x.bytes, x.sure.toNat⟩) true (ldD fs).files = sortL (fs ++ [x.fi.fl]) := (by
                rw [hlen4, storeL_there _ (show Sorted (ldD fs).files from sortL_sorted HR.out.names), show Dm.get (ldD fs).files (RF.fl ⟨x.name, p4, cc4, x.bytes, x.sure.toNat⟩).name = none from (sortL_get HR.out.names x.name).trans HG.out]; rfl)
              have hnd := ld_nodup HR.out.names HE0.out
              have hsr : ∀ f ∈ fs ++ [x.fi.fl], f.sure ≤ f.bytes.length := (fun f hf => (by
                rcases List.mem_append.1 hf with hf | hf
                · exact HR.out.sure f hf
                · obtain rfl : f = x.fi.fl := by simpa using hf
                  show x.sure.toNat ≤ x.bytes.length
                  omega))
              have htt : total (fs ++ [x.fi.fl]) ≤ 1099511627776 := ldGo_tot HA.out H.out.sum
              have hs := rstore_anyL (⟨x.name, p4, cc4, x.bytes, x.sure.toNat⟩ : RF) true (by show (sortL fs).length ≤ _; rw [sortL_len, HR.out.len]; have := HLEN.out; omega) R4.out (fun _ => OB.rb O4.out) (fun _ e => (by have h1 := N4.out r e; have h2 := HC3.out.size; simp at h1 h2 hrlt; omega)) (by rw [hq]; exact ldOk (n := 1099511627776) (Nat.le_refl _) hnd hsr (by have := HLEN.out; omega))
              rw [hq] at hs
              simp only [HSU.out] at hs
              have HS := Lib.hid hs
              have HND := Lib.hid (And.intro hnd (And.intro hsr htt))
              have HRL := Lib.hid hrlt
              have HC3S := Lib.hid HC3.out.size
              clear hs hnd hsr htt hrlt hlen4 hq o4 c4 n4
              go_wp2
              refine ⟨(by exact K4.out), ?_⟩
              (refine Rx.wpSched_q rfl rfl ?_; go_wp2; refine ⟨rfl, ?_⟩)
              refine Rx.wpSched_e rfl ?_
              go_wp2_with (first | (go_at_call 90; refine stop ?_))
              refine go ?_
              refine HS.out.mono ?_
              rintro e w5 ⟨rfl, hst5⟩
              have HST5 := Lib.hid hst5
              have T5 := Lib.hid ((HST5.out.choose_spec.2.1.block _ (hlt_of T4.out) (fun e => by have h1 := HRL.out; have e : wr.heap.size = r := e; have h2 := HR.out.rep; obtain ⟨K, v, l1, hr, hG⟩ := h2; have := hr.lt r (by simp); omega)).trans T4.out)
              have K5 := Lib.hid (And.intro ((hcell_of T5.out 0).trans rfl) ((hcell_of T5.out 2).trans rfl))
              go_wp2
              refine ⟨(by exact K5.out), ?_⟩
              refine Rx.wpSched_nil ?_
              go_wp2
              go_roundw
              case rel =>
                obtain ⟨G5, g1, g2, g3⟩ := HST5.out
                have hw := HR.out.chg.size
                have h3 := HCH.out.size
                have h4 := CW4.out.size
                have hrG : r ∈ G := by obtain ⟨K, v, l1, hr, hG⟩ := HREP.out; rw [hG]; simp
                refine ⟨j + 1, fs ++ [x.fi.fl], G5, ?_, by go_num, by omega, { rep := g1, go := HA.out, names := HND.out.1, low := fun k hk => ?_, chg := (HCH.out.trans CW4.out fun _ h => h.elim).trans g2 fun k hk => .inr (by subst hk; exact HR.out.low _ hrG), tot := HND.out.2.2, sure := HND.out.2.1, len := by rw [List.length_append, HR.out.len]; rfl }⟩
                · rw [total_append, show total [x.fi.fl] = x.bytes.length by simp [total, FI.fl, LI.fi]]
                  congr 1
                  simp
                  omega
                · rcases g3 k hk with h | h | h
                  · exact HR.out.low k h
                  · omega
                  · have h1 := N4.out k h
                    have h2 := HC3S.out
                    simp at h1 h2
                    omega
              case measure => simp [Lib.intOf]; omega
        · rw [hg] at hfi
          obtain ⟨p3, c3, rfl, -⟩ := hfi
          have he : ldErr fs x.fi = 61 := by unfold ldErr; rw [if_pos (show okName x.fi.name = true from hok), show Dm.get fs x.fi.name = some f from hg]
          have HA := Lib.hid (ldAll_err HN.out (HTK.out.2 (by rw [he]; simp)) (by rw [he]; simp))
          rw [he] at HA
          have HC3 := Lib.hid ((HCH.out.trans c2 fun _ h => h.elim).alloc (.cells #[.string f.name, .bool true, .slice p3 f.bytes.length c3, .int .i64 (f.sure : Int)] 130))
          clear he hg c2
          unfold fileV
          go_wp2
          go_ret2
          rw [HA.out]
          exact .inl ⟨by simp, rfl, HC3.out⟩
      · have hok : okName x.name = false := by simpa using hok
        have he : ldErr fs x.fi = 113 := by unfold ldErr; rw [if_neg (by show ¬ okName x.name = true; rw [hok]; simp)]
        have HA := Lib.hid (ldAll_err HN.out (HTK.out.2 (by rw [he]; simp)) (by rw [he]; simp))
        rw [he] at HA
        rw [hok] at hnm
        have HNM := Lib.hid hnm
        clear hnm he
        go_wp2_with (first | (go_at_call 88; refine HNM.out.mono ?_; rintro e w' ⟨rfl, rfl⟩))
        go_ret2
        rw [HA.out]
        exact .inl ⟨by simp, rfl, HCH.out⟩
    · have hje : (l.map LI.fi).take j = l.map LI.fi := List.take_of_length_le (by rw [List.length_map]; omega)
      have hgo := HR.out.go
      rw [hje] at hgo
      have HGO := Lib.hid hgo
      clear hgo hje
      by_cases hful : (n : Int) - (total fs : Int) < 0
      · have HA := Lib.hid (ldAll_full HN.out HGO.out (by omega))
        go_wp2
        go_ret2
        rw [HA.out]
        exact .inl ⟨by simp, rfl, HR.out.chg⟩
      · have HA := Lib.hid (ldAll_ok HN.out HGO.out (by omega))
        have HOK := Lib.hid (ldOk HN.out HR.out.names HR.out.sure (by omega))
        go_wp2
        go_ret2
        rw [HA.out]
        obtain ⟨K, v, l1, hr, hG⟩ := HR.out.rep
        exact .inr ⟨rfl, r, rfl, G, ⟨K, v, l1, { head := hr.head, sl := hr.sl, each := hr.each, off := hr.off, files := hr.files, ok := HOK.out, keep := hr.keep }, hG⟩, ⟨HR.out.chg.mono fun k hk => .inl hk.elim, fun k hk => .inr (HR.out.low k hk)⟩⟩

theorem rload_bad (lim : Int) {v : Value} (hl : lim < 0 ∨ 1099511627776 < lim) :
    Calls Try.prog 61 #[.int .i64 lim, v] w fun e w' => e = .returned (.tuple #[.pointer none, .int .i64 12]) ∧ w = w' := by
  have hb := rnew_bad (w := w) lim hl
  have HB := Lib.hid hb
  clear hb hl
  go_enter Try.func61, Try.ntmps61
  go_wp2_with (first | (go_at_call 62; refine HB.out.mono ?_; rintro e w' ⟨rfl, rfl⟩))
  go_ret2
  exact ⟨rfl, rfl⟩
end
end Go.Proofs
