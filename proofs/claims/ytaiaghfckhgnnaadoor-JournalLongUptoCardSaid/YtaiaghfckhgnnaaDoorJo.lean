/- journal.Open where nothing is to be mended: of a file that is not there; of a file that is whole and durable. Conditions: each law's own. -/
import Derived.Test.YtaiaghfckhgnnaaDoorJz
namespace Go.Proofs
open Go.RowKit Go.Hp Go.Dm Go.Dr Go.Jn
set_option linter.unusedVariables false
set_option maxRecDepth 10000
def Ent.recs (v : Value) (ls : List LF) : Ent := ⟨rblks v ls, fun w => Recs w v ls⟩
theorem good_recs (v : Value) (ls : List LF) : (Ent.recs v ls).Good := ⟨fun h hk => h.keep hk, fun h => h.lt⟩
theorem results_tmp4 {fn : Func} {t u v x : Tmp} (h : fn.results = #[.tmp t, .tmp u, .tmp v, .tmp x]) (tmps : Array Value) (P : Program) (w : World) :
    (results fn tmps).run P w = .ok (.tuple #[tmps.getD t undef, tmps.getD u undef, tmps.getD v undef, tmps.getD x undef]) w := by
  simp [results, h]
theorem snoc_ind {α : Type} {P : List α → Prop} (h0 : P []) (h1 : ∀ l a, P l → P (l ++ [a])) (l : List α) : P l := by
  have h : ∀ r : List α, P r.reverse := fun r => by
    induction r with
    | nil => exact h0
    | cons a r ih => rw [List.reverse_cons]; exact h1 _ _ ih
  simpa using h l.reverse
def endsOf (l : List (List UInt8)) : List Nat := l.foldl (fun es r => es ++ [endN es es.length + (r.length + 16)]) []
theorem endsOf_snoc (l : List (List UInt8)) (r : List UInt8) : endsOf (l ++ [r]) = endsOf l ++ [endN (endsOf l) (endsOf l).length + (r.length + 16)] := by simp [endsOf]
theorem endsOf_len (l : List (List UInt8)) : (endsOf l).length = l.length := by
  induction l using snoc_ind with
  | h0 => rfl
  | h1 l r ih => rw [endsOf_snoc]; simp [ih]
theorem endN_snoc (es : List Nat) (x : Nat) : endN (es ++ [x]) (es ++ [x]).length = x := by
  unfold endN
  rw [if_neg (by simp), List.length_append, List.length_singleton, Nat.add_sub_cancel]
  simp [List.getD]
theorem endsOf_end (l : List (List UInt8)) : endN (endsOf l) (endsOf l).length = (fileOf 0 l).length := by
  induction l using snoc_ind with
  | h0 => rfl
  | h1 l r ih => rw [endsOf_snoc, endN_snoc, ih, fileOf_snoc, List.length_append, wrap_len, payload_len]
section
variable {W w : World} {d : Nat} {D : Dk} {F : List Nat} {L : List Ent} {nm : ByteArray}
/-- the disk and a new journal's block taken as a house -/
theorem Many.house {j : Nat} (h : Many W w (Ent.disk d D F :: Ent.box j (.cells #[.pointer (some ⟨d, 0, none⟩), .string nm, .slice none 0 0, .int .i64 0, .nilIface] 60) :: L)) :
    Many W w (Ent.house d j ⟨D, nm, [], 0, .nilIface⟩ (F ++ jbl j (.slice none 0 0)) :: L) := by
  have hap := (List.pairwise_cons.1 h.apart).1 (Ent.box j (.cells #[.pointer (some ⟨d, 0, none⟩), .string nm, .slice none 0 0, .int .i64 0, .nilIface] 60)) (by simp)
  refine h.join (z := Ent.house d j ⟨D, nm, [], 0, .nilIface⟩ (F ++ jbl j (.slice none 0 0))) ⟨F, .slice none 0 0, ⟨h.first, ⟨h.tail.first, OC_nil _ _ _, by simp [sblk]⟩, fun k hk hkF => ?_⟩, rfl⟩ (good_house _ _ _ _) fun k hk => ?_
  · rcases mem_jbl.1 hk with rfl | hk
    · exact hap k hkF (by simp [Ent.box])
    · cases hk
  · rcases List.mem_append.1 hk with hk | hk
    · exact .inl hk
    · rcases mem_jbl.1 hk with rfl | hk
      · exact .inr (by simp [Ent.box])
      · cases hk
set_option maxHeartbeats 8000000 in
theorem open_new (hM : Many W w (Ent.disk d D F :: L)) (hs : nm.size ≤ maxLen) (hl : (D.size nm).2.2 = 112) :
    Calls Tryd.prog 7 #[.pointer (some ⟨d, 0, none⟩), .string nm] w fun e w' => ∃ j G, e = .returned (.tuple #[.pointer (some ⟨j, 0, none⟩), .slice none 0 0, .int .i64 0, .nilIface]) ∧ Many W w' (Ent.house d j ⟨D, nm, [], 0, .nilIface⟩ G :: L) := by
  have m1 := (hM.addBox (.cells #[.pointer (some ⟨d, 0, none⟩), .string nm, .slice none 0 0, .int .i64 0, .nilIface] 60)).swap12
  have hsz := size_any hs m1.first
  obtain ⟨S0, S1, hS⟩ : ∃ S0 S1, D.size nm = (S0, S1, 112) := ⟨_, _, by rw [← hl]⟩
  rw [hS] at hsz
  simp only [show ((112 : Nat) : Int) = 112 from rfl] at hsz
  have HSZ := Lib.hid hsz
  have M1 := Lib.hid m1
  clear m1 hsz hS hl hM hs
  go_enter Tryd.func7, Tryd.ntmps7
  go_wp2_with (first | (go_at_call 27; refine stop ?_))
  refine go ?_
  refine HSZ.out.mono ?_
  rintro e w1 ⟨rfl, hl1⟩
  obtain ⟨F1, m2⟩ := M1.out.left hl1
  have M2 := Lib.hid m2.house
  clear hl1 m2
  go_wp2
  (try simp only [Exit.inBlock, Exit.then])
  refine bodyPost_ret (results_tmp4 rfl _ _ _) rfl ?_
  exact ⟨_, _, rfl, M2.out⟩
theorem ends_bound {l : List (List UInt8)} {B : Nat} (h : (fileOf 0 l).length ≤ B) (k : Nat) : endN (endsOf (l.take k)) (endsOf (l.take k)).length ≤ B := by
  rw [endsOf_end]
  have h1 : fileOf 0 l = fileOf 0 (l.take k) ++ fileOf (0 + (l.take k).length) (l.drop k) := by rw [← fileOf_append, List.take_append_drop]
  rw [h1, List.length_append] at h
  omega
set_option maxHeartbeats 16000000 in
theorem open_same (hg : Gl W) (hM : Many W w (Ent.disk d D F :: L)) (hs : nm.size ≤ maxLen) {l : List (List UInt8)} (hr : ∀ r ∈ l, r.length ≤ 131068) (hB : (fileOf 0 l).length ≤ 2147483647)
    (hsz : D.size nm = ((fileOf 0 l).length, (fileOf 0 l).length, 0)) (hrd : D.read nm 0 ((fileOf 0 l).length : Int) = (fileOf 0 l, 0)) :
    Calls Tryd.prog 7 #[.pointer (some ⟨d, 0, none⟩), .string nm] w fun e w' => ∃ j G rv ls, e = .returned (.tuple #[.pointer (some ⟨j, 0, none⟩), rv, .int .i64 0, .nilIface]) ∧ ls.map LF.bytes = l ∧ Many W w' (Ent.house d j ⟨D, nm, endsOf l, l.length, .nilIface⟩ G :: Ent.recs rv ls :: L) := by
  have m1 := (hM.addBox (.cells #[.pointer (some ⟨d, 0, none⟩), .string nm, .slice none 0 0, .int .i64 0, .nilIface] 60)).swap12
  obtain ⟨j, hj⟩ : ∃ j, j = w.heap.size := ⟨_, rfl⟩
  rw [← hj] at m1
  have hcl : l.length ≤ 2147483647 := Nat.le_trans (count_le l 0) hB
  have hpr := parse_file hr
  obtain ⟨B, hBd⟩ : ∃ B, B = fileOf 0 l := ⟨_, rfl⟩
  have heb := fun k => ends_bound (l := l) (Nat.le_refl (fileOf 0 l).length) k
  rw [← hBd] at hsz hrd hpr hB
  rw [← hBd] at heb
  have hz1 := size_any hs m1.first
  rw [hsz] at hz1
  have HSZ := Lib.hid hz1
  have M1 := Lib.hid m1
  have HRD := Lib.hid (And.intro hrd (And.intro hs hj))
  have HPR := Lib.hid (And.intro hpr (And.intro hB (And.intro hcl (And.intro hr hg))))
  have HEB := Lib.hid heb
  obtain ⟨s, hs1⟩ : ∃ s, s = B.length := ⟨_, rfl⟩
  rw [← hs1] at HSZ
  have iB : (s : Int) ≤ 2147483647 := by omega
  have iB0 : (0 : Int) ≤ (s : Int) := by omega
  have HS1 := Lib.hid hs1
  clear m1 hz1 hsz hrd hpr hB hcl hr hM hs hg hBd heb hs1 hj
  go_enter Tryd.func7, Tryd.ntmps7
  go_wp2_with (first | (go_at_call 27; refine stop ?_))
  rw [← HRD.out.2.2]
  refine go ?_
  refine HSZ.out.mono ?_
  rintro e w1 ⟨rfl, hl1⟩
  obtain ⟨F1, m2⟩ := M1.out.left hl1
  have hrd := read_any 0 (s : Int) HRD.out.2.1 m2.first
  rw [HS1.out, HRD.out.1, ← HS1.out] at hrd
  have HR1 := Lib.hid hrd
  have M2 := Lib.hid m2
  clear hl1 m2 hrd
  go_wp2_with (first | (go_at_call 28; refine stop ?_))
  refine go ?_
  refine HR1.out.mono ?_
  rintro e w2 ⟨v2, rfl, o2, n2, c2, -⟩
  have m3 := M2.out.addBytes o2 c2 n2
  obtain ⟨p2, cc2, rfl, -⟩ := id o2
  have hpa := parse_any (HPR.out.2.2.2.2.chg m3.chg) (OB.rb o2) HPR.out.2.1
  rw [HPR.out.1, ← HS1.out] at hpa
  have HPA := Lib.hid hpa
  have M3 := Lib.hid m3
  clear o2 n2 c2 m3 hpa
  rw [← HS1.out]
  go_wp2_with (first | (go_at_call 29; refine stop ?_))
  refine go ?_
  refine HPA.out.mono ?_
  rintro e w3 ⟨rv, ls, rfl, hls, hrec, c3, hnew⟩
  have m4 : Many W w3 (Ent.recs rv ls :: _) := M3.out.add (y := Ent.recs rv ls) c3 hrec (good_recs _ _) hnew
  have m5 := (m4.swap12.tail.back3).house
  have hlsl : ls.length = l.length := by rw [← hls, List.length_map]
  obtain ⟨pr, cr, rfl, -⟩ := id hrec.oc
  obtain ⟨N, hN⟩ : ∃ N, N = ls.length := ⟨_, rfl⟩
  rw [← hN] at m5 ⊢
  have hNl : N = l.length := by rw [hN, hlsl]
  have iN : (N : Int) ≤ 2147483647 := by have := HPR.out.2.2.1; omega
  have hcr : N ≤ cr := by obtain ⟨_, _, e, h1, -⟩ := hrec.oc; simp only [Value.slice.injEq] at e; omega
  have icr : (N : Int) ≤ (cr : Int) := by omega
  have HNL := Lib.hid (And.intro hN (And.intro hNl hls))
  have M5 := Lib.hid m5
  clear hls hrec c3 hnew m4 m5 hlsl hN hNl hcr
  simp only [show ((0 : Nat) : Int) = 0 from rfl]
  go_wp2
  go_loopw [87] (fun t87 wr => ∃ k : Nat, t87 = .int .i64 (k : Int) ∧ k ≤ N ∧ ∃ G, Many W wr (Ent.house d j ⟨D, nm, endsOf (l.take k), 0, .nilIface⟩ G :: Ent.recs (.slice pr N cr) ls :: L)) (fun t87 _ => N - (Lib.intOf t87).toNat)
  case atStart => exact ⟨0, rfl, Nat.zero_le _, _, M5.out⟩
  case round =>
    obtain ⟨k, rfl, hk, G, hMk⟩ := hrel
    have HMK := Lib.hid hMk
    have ik0 : (0 : Int) ≤ (k : Int) := by omega
    by_cases hkl : (k : Int) < (N : Int)
    · have hrec : Recs wr (.slice pr N cr) ls := hMk.get (x := Ent.recs (.slice pr N cr) ls) (by simp)
      obtain ⟨x, hx⟩ : ∃ x, ls[k]? = some x := ⟨_, List.getElem?_eq_getElem (by have := HNL.out.1; omega)⟩
      have hlk : l[k]? = some x.bytes := by rw [← HNL.out.2.2, List.getElem?_map, hx]; rfl
      obtain ⟨rb, rfl⟩ := OC.blk1 hrec.oc (by have := HNL.out.1; omega)
      have q1 := (OC.atk hrec.oc (j := k) (u := x.sv) (by rw [List.getElem?_map, hx]; rfl)).1
      change wr.cell? ⟨rb, k, none⟩ = some (.slice x.p x.bytes.length x.cap) at q1
      obtain ⟨Fk, vk, hr, hG⟩ := hMk.first
      have hHK := Lib.hid (And.intro hr hG)
      obtain ⟨pv5, cv5, hpv5, -⟩ := id hr.jrn.oc
      have hel : (endsOf (l.take k)).length = k := by rw [endsOf_len, List.length_take]; have := HNL.out.2.1; omega
      have hes : ({ D := D, nm := nm, es := endsOf (l.take k), du := 0, er := .nilIface } : Hs).es.length = k := hel
      have hsz2 := jsize_any hr.jrn (by rw [hes]; have := HNL.out.2.1; have := HPR.out.2.2.1; omega)
      have hzb := HEB.out k
      have htk : endsOf (l.take (k + 1)) = endsOf (l.take k) ++ [endN (endsOf (l.take k)) (endsOf (l.take k)).length + (x.bytes.length + 16)] := by
        rw [List.take_add_one, hlk]; exact endsOf_snoc _ _
      obtain ⟨Z, hZ⟩ : ∃ Z, Z = endN (endsOf (l.take k)) (endsOf (l.take k)).length := ⟨_, rfl⟩
      rw [show ({ D := D, nm := nm, es := endsOf (l.take k), du := 0, er := .nilIface } : Hs).es = endsOf (l.take k) from rfl, ← hZ] at hsz2
      rw [← hZ] at htk hzb
      rw [hes] at hpv5
      have hxb : x.bytes.length ≤ 131068 := HPR.out.2.2.2.1 _ (List.mem_of_getElem? hlk)
      have ixb : (x.bytes.length : Int) ≤ 131068 := by omega
      have iZ : (Z : Int) ≤ 2147483647 := by have := HPR.out.2.1; omega
      have iZ0 : (0 : Int) ≤ (Z : Int) := by omega
      have g0 := hcell_of (hr.jrn).head 0
      have g1 := hcell_of (hr.jrn).head 1
      have g2 := hcell_of (hr.jrn).head 2
      have g3 := hcell_of (hr.jrn).head 3
      have g4 := hcell_of (hr.jrn).head 4
      simp only [List.getElem?_toArray, List.getElem?_cons_zero, List.getElem?_cons_succ] at g0 g1 g2 g3 g4
      subst hpv5
      obtain ⟨xl, hxl⟩ : ∃ xl, xl = x.bytes.length := ⟨_, rfl⟩
      rw [← hxl] at q1 ixb htk
      have ixl0 : (0 : Int) ≤ (xl : Int) := by omega
      have g2' : wr.drew.cell? ⟨j, 2, none⟩ = some (.slice pv5 k cv5) := g2
      have HTK := Lib.hid (And.intro htk (And.intro hel (And.intro hG hxl)))
      have HSZ2 := Lib.hid (jsize_any (hr.quiet ((Chg.refl (fun _ => False) wr).drew)).jrn (by rw [hes]; have := HNL.out.2.1; have := HPR.out.2.2.1; omega))
      rw [show ({ D := D, nm := nm, es := endsOf (l.take k), du := 0, er := .nilIface } : Hs).es = endsOf (l.take k) from rfl] at HSZ2
      have HSZ3 : Hid (Calls Tryd.prog 32 #[.pointer (some ⟨j, 0, none⟩)] wr.drew fun e w' => e = .returned (.int .i64 (Z : Int)) ∧ wr.drew = w') := Lib.hid (by rw [hZ]; exact HSZ2.out)
      have HHR := Lib.hid hr
      have HKN := Lib.hid (And.intro hk hkl)
      clear hMk hrec hx hlk hr hG hel hes hsz2 hzb htk hZ hxb hxl g0 g1 g2 g3 g4 HSZ2
      go_wp2
      refine Rx.wt_region (fun W => W.cell? ⟨j, 2, none⟩ = some (.slice pv5 k cv5)) 15 [(5, .r), (0, .h), (1, .h), (2, .h), (3, .h), (8, .h), (4, .h), (9, .h), (6, .e), (7, .r), (10, .r), (11, .e), (12, .e), (13, .r), (14, .r), (15, .e)] (by kernel_rfl) (by kernel_rfl) (by kernel_rfl) g2' (fun _ _ x _ _ h => (by cases x <;> exact h)) ?_
      (refine Rx.wt_q rfl rfl ?_; go_wp2; refine Rx.atS_mk ?_)
      iterate 7 (refine Rx.wt_h (v := ?_) rfl rfl ?_ ?_; rotate_left; (intro w' hS'; go_simp; try with_reducible rfl))
      refine Rx.wt_e rfl ?_
      go_wp2_with (first | (go_at_call 32; refine stop ?_))
      refine go ?_
      refine HSZ3.out.mono ?_
      rintro e w' ⟨rfl, rfl⟩
      go_wp2
      refine ⟨fun _ => g2', ?_⟩
      iterate 2 (refine Rx.wt_q rfl rfl ?_; go_wp2; refine Rx.atS_mk ?_)
      refine Rx.wt_e rfl ?_
      go_wp2
      rw [show (Z : Int) + 16 + (xl : Int) = ((Z + (xl + 16) : Nat) : Int) by omega]
      have hca : Chg (fun _ => False) wr (wr.alloc (.cells #[.int .i64 ((Z + (xl + 16) : Nat) : Int)] 3)).drew := ((Chg.refl _ wr).alloc _).drew
      have r6 := HHR.out.quiet hca
      have g0 := hcell_of (r6.jrn).head 0
      have g1 := hcell_of (r6.jrn).head 1
      have g2 := hcell_of (r6.jrn).head 2
      have g3 := hcell_of (r6.jrn).head 3
      have g4 := hcell_of (r6.jrn).head 4
      simp only [List.getElem?_toArray, List.getElem?_cons_zero, List.getElem?_cons_succ] at g0 g1 g2 g3 g4
      refine ⟨fun _ => g2, ?_⟩
      have R6 := Lib.hid r6
      have HCA := Lib.hid hca
      have hnew : RC (wr.alloc (.cells #[.int .i64 ((Z + (xl + 16) : Nat) : Int)] 3)).drew 1 (.slice (some ⟨wr.heap.size, 0, none⟩) 1 1) [intV (Z + (xl + 16))].length [intV (Z + (xl + 16))] := RC.chg (OC_new wr 1 3 #[.int .i64 ((Z + (xl + 16) : Nat) : Int)] 1 1 (by decide) (by unfold maxLen; decide) rfl).rc ((Chg.refl (fun _ => False) _).drew) fun _ _ h => h
      generalize (wr.alloc (.cells #[.int .i64 ((Z + (xl + 16) : Nat) : Int)] 3)).drew = wa at R6 HCA hnew g0 g1 g2 g3 g4 r6 hca ⊢
      have HNW := Lib.hid hnew
      clear r6 hca hnew g0 g1 g3 g4
      refine Rx.wt_e rfl ?_
      refine wpList_append_ints rfl _ _ rfl (v := .slice pv5 k cv5) (l := (endsOf (l.take k)).map intV) (m := [intV (Z + (xl + 16))]) rfl rfl (by rw [List.length_map]; exact R6.out.jrn.oc) HNW.out (by simp [intV, Value.oneCell']) (by rw [List.length_map, HTK.out.2.1]; have := HKN.out.1; have := HNL.out.2.1; have := HPR.out.2.2.1; simp; omega) ?_
      intro pv6 lv6 cv6 w6 a1 a2 a3 a4
      have hoc : OC w6 1 3 (.slice pv6 lv6 cv6) (endsOf (l.take (k + 1))).length ((endsOf (l.take (k + 1))).map intV) := by
        rw [HTK.out.1, List.map_append, List.length_append]
        rw [List.length_append, List.length_map] at a1
        exact a1
      have hne : sblk (.slice pv5 k cv5) ≠ some j := R6.out.jrn.ne
      have hgr := HHR.out.grow HCA.out hoc a3 a4
      have hh6 : w6.heap[j]? = _ := (a3.block j (R6.out.jrn.lt j (mem_jbl.2 (.inl rfl))) hne).trans R6.out.jrn.head
      have k2 := hcell_of hh6 2
      have z2 := hfree_of hh6 2
      simp only [List.getElem?_toArray, List.getElem?_cons_zero, List.getElem?_cons_succ] at k2
      have HGR := Lib.hid hgr
      clear a1 a2 a3 a4 hoc hgr hh6 g2 g2' hne
      go_wp2
      refine ⟨k2, ?_⟩
      iterate 2 (refine Rx.wt_q rfl rfl ?_; go_wp2; refine Rx.atS_mk ?_)
      refine Rx.wt_e rfl ?_
      go_wp2
      refine ⟨by simp, ?_⟩
      refine Rx.wt_nil ?_
      clear k2 z2 q1
      go_wp2
      go_roundw
      case rel =>
        refine ⟨k + 1, by go_num, by omega, _, HMK.out.turn (y := Ent.house d j ⟨D, nm, endsOf (l.take (k + 1)), 0, .nilIface⟩ _) ⟨Fk, .slice pv6 lv6 cv6, HGR.out.1, rfl⟩ (good_house _ _ _ _) ?_⟩
        rw [HTK.out.2.2.1]
        exact HGR.out.2
      case measure => simp [Lib.intOf]; omega
    · obtain ⟨Fk, vk, hr, hG⟩ := hMk.first
      have hkN : k = N := by omega
      have hsu := hr.sure N
      have z3 := hfree_of hr.jrn.head 3
      have g0 := hcell_of (hr.jrn).head 0
      have g1 := hcell_of (hr.jrn).head 1
      have g2 := hcell_of (hr.jrn).head 2
      have g3 := hcell_of (hr.jrn).head 3
      have g4 := hcell_of (hr.jrn).head 4
      simp only [List.getElem?_toArray, List.getElem?_cons_zero, List.getElem?_cons_succ] at g0 g1 g2 g3 g4
      have HHR := Lib.hid (And.intro hsu (And.intro hG hkN))
      clear hMk hr hG hsu hkN g0 g1 g2 g4
      go_wp2
      (try simp only [Exit.inBlock, Exit.then])
      refine bodyPost_ret (results_tmp4 rfl _ _ _) rfl ?_
      refine ⟨j, Fk ++ jbl j vk, .slice pr N cr, by simp, ls, HNL.out.2.2, ?_⟩
      have h1 := HMK.out.turn (y := Ent.house d j ⟨D, nm, endsOf l, l.length, .nilIface⟩ (Fk ++ jbl j vk)) (by
        have h2 := HHR.out.1.1
        have e1 : l.take k = l := by rw [HHR.out.2.2, HNL.out.2.1, List.take_length]
        rw [e1] at h2
        rw [← HNL.out.2.1]
        exact ⟨Fk, vk, h2, rfl⟩) (good_house _ _ _ _) (by rw [HHR.out.2.1]; exact HHR.out.1.2)
      exact h1
end
end Go.Proofs
