/- JournalLong's walk. Conditions: the listed variables lie as they were laid. -/
import Derived.Test.YtaiaghfckhgnnaaDoorGa
namespace Go.Proofs
open Go.RowKit Go.Hp Go.Dm Go.Dr Go.Jn
set_option linter.unusedVariables false
set_option maxRecDepth 10000
def rngR (k : Nat) : List (List UInt8) := (List.range k).map fun i => [UInt8.ofNat i]
theorem rngR_succ (k : Nat) : rngR (k + 1) = rngR k ++ [[UInt8.ofNat k]] := by simp [rngR, List.range_succ]
theorem rngR_len (k : Nat) : (rngR k).length = k := by simp [rngR]
theorem rngR_get {k n : Nat} (h : k < n) : (rngR n)[k]? = some [UInt8.ofNat k] := by
  unfold rngR
  rw [List.getElem?_map, List.getElem?_range h]
  rfl
theorem rngR_file (k : Nat) : (fileOf 0 (rngR k)).length = 17 * k := by
  induction k with
  | zero => rfl
  | succ k ih => rw [rngR_succ, fileOf_snoc, List.length_append, ih, wrap_len, payload_len]; simp; omega
theorem cell1 (k : Nat) : (#[.int .u8 ((k : Int) % 256)] : Array Value) = ([UInt8.ofNat k].map u8).toArray := by
  show _ = #[u8 _]
  rw [u8_nat]
  simp
theorem rep_file (k : Nat) : (fileOf 0 (List.replicate k [])).length = 16 * k := by
  induction k with
  | zero => rfl
  | succ k ih => rw [List.replicate_succ', fileOf_snoc, List.length_append, ih, wrap_len, payload_len]; simp; omega
theorem rep_next (k : Nat) : fileOf 0 (List.replicate (k + 1) []) = fileOf 0 (List.replicate k []) ++ jwrap (be4 k) := by
  rw [List.replicate_succ', fileOf_snoc, List.length_replicate]
  simp [jpay]
theorem u8_any (x : Int) (h0 : 0 ≤ x) (h1 : x < 256) : Value.int .u8 x = u8 (UInt8.ofNat x.toNat) := by
  rw [u8_nat]
  congr 1
  omega
section
variable {W w : World} {L : List Ent} {d j : Nat} {D D1 : Dk} {G : List Nat} {hv : List (List UInt8)} {s du lim : Nat} {r : List UInt8} {p : Option Addr} {c : Nat}
/-- an Append that is taken -/
theorem japp_m (hg : Gl W) (hm : Many W w (Ent.house d j ⟨D, nL, endsOf hv, du, .nilIface⟩ G :: L)) (hF : FM lim D hv s) (hlim : lim ≤ 1073741824) (hN : hv.length ≤ 1000000) (hdu : du ≤ hv.length) (hs : atN hv du ≤ s)
    (hb : RB w (.slice p r.length c) r) (hap : ∀ k, sblk (.slice p r.length c) = some k → k ∉ G) (hr : r.length ≤ 131068) (hf : (fileOf 0 hv).length + (r.length + 16) ≤ lim) :
    Calls Tryd.prog 9 #[.pointer (some ⟨j, 0, none⟩), .slice p r.length c] w fun e w' => e = .returned .nilIface ∧ ∃ D1 G', FM lim D1 (hv ++ [r]) s ∧ Many W w' (Ent.house d j ⟨D1, nL, endsOf (hv ++ [r]), du, .nilIface⟩ G' :: L) := by
  obtain ⟨D1, ha, hF1⟩ := hF.app_ok hr hf
  obtain ⟨F, v, hraw, hG⟩ := hm.first
  have hel : (endsOf hv).length = hv.length := endsOf_len _
  have hF2 : ∀ k ∈ F ++ jbl j v, 1 < k := fun k hk => by
    have h1 := hm.new (Ent.house d j ⟨D, nL, endsOf hv, du, .nilIface⟩ G) (by simp) k (by rw [hG]; exact hk)
    have := hg.lt
    omega
  have hfit := hF.fit
  have h := japp_ok (hg.chg hm.chg) hraw rfl (show nL.size ≤ maxLen by decide) (show (endsOf hv).length ≤ 2147483647 by rw [hel]; omega) (show du ≤ (endsOf hv).length by rw [hel]; exact hdu) (hF.look hdu hs) hb (fun k hk => by rw [← hG]; exact hap k hk) hF2 hr (show endN (endsOf hv) (endsOf hv).length ≤ 1099511627776 by rw [endsOf_end]; omega) (show D.append nL (jwrap (jpay (endsOf hv).length r)) = ((r.length + 16, 0), D1) by rw [hel]; exact ha)
  refine h.mono ?_
  rintro e w' ⟨rfl, hl⟩
  obtain ⟨G', m⟩ := hm.housed (by rw [hG]; exact hl)
  refine ⟨rfl, D1, G', hF1, ?_⟩
  rw [endsOf_snoc]
  exact m
/-- a Sync -/
theorem jsync_m (hg : Gl W) (hm : Many W w (Ent.house d j ⟨D, nL, endsOf hv, du, .nilIface⟩ G :: L)) (hF : FM lim D hv s) (hN : hv.length ≤ 1000000) (hdu : du < hv.length) (hs : atN hv du ≤ s) :
    Calls Tryd.prog 16 #[.pointer (some ⟨j, 0, none⟩)] w fun e w' => e = .returned .nilIface ∧ ∃ D1 G', FM lim D1 hv (fileOf 0 hv).length ∧ Many W w' (Ent.house d j ⟨D1, nL, endsOf hv, hv.length, .nilIface⟩ G' :: L) := by
  obtain ⟨D1, hsy, hF1⟩ := hF.syn (fun e => by rw [e] at hdu; simp at hdu)
  obtain ⟨F, v, hraw, hG⟩ := hm.first
  have hel : (endsOf hv).length = hv.length := endsOf_len _
  have h := jsync_any (D2 := D1) hraw rfl (show nL.size ≤ maxLen by decide) (show (endsOf hv).length ≤ 2147483647 by rw [hel]; omega) (show du ≤ (endsOf hv).length by rw [hel]; omega) (hF.look (Nat.le_of_lt hdu) hs) (fun e => by have e : du = (endsOf hv).length := e; rw [hel] at e; exact absurd hdu (by rw [e]; exact Nat.lt_irrefl _)) (fun _ => hsy)
  refine h.mono ?_
  rintro e w' ⟨rfl, hl⟩
  obtain ⟨G', m⟩ := hm.housed (by rw [hG]; exact hl)
  refine ⟨rfl, D1, G', hF1, ?_⟩
  have e1 : ({ D := D1, nm := nL, es := endsOf hv, du := (endsOf hv).length, er := .nilIface } : Hs) = ⟨D1, nL, endsOf hv, hv.length, .nilIface⟩ := by rw [hel]
  rw [← e1]
  exact m
end
theorem atN_left {l m : List (List UInt8)} : atN (l ++ m) l.length = (fileOf 0 l).length := by
  unfold atN
  rw [List.take_append_of_le_length (Nat.le_refl _), List.take_length]
theorem cell7 : (#[.int .u8 7] : Array Value) = (([7] : List UInt8).map u8).toArray := rfl
theorem long_tail {l0 : List (List UInt8)} {n : Nat} (hl : l0.length = n + 1) (hs : ∀ x ∈ l0, x = []) (r1 r2 : List UInt8) :
    (l0 ++ [r1] ++ [r2])[n]? = some [] ∧ (l0 ++ [r1] ++ [r2])[n + 1]? = some r1 ∧ (l0 ++ [r1] ++ [r2])[n + 2]? = some r2 ∧ ((l0 ++ [r1] ++ [r2]).drop n).take 3 = [[], r1, r2] := by
  have h0 : l0[n]? = some [] := by
    have : l0[n]? = some (l0[n]'(by omega)) := List.getElem?_eq_getElem (by omega)
    rw [this, hs _ (List.getElem_mem _)]
  have hd : l0.drop n = [[]] := by
    rw [List.drop_eq_getElem_cons (by omega), List.drop_of_length_le (by omega), (List.getElem?_eq_some_iff.1 h0).2]
  refine ⟨?_, ?_, ?_, ?_⟩
  · rw [List.append_assoc, List.getElem?_append_left (by omega)]; exact h0
  · rw [List.append_assoc, List.getElem?_append_right (by omega), hl, Nat.sub_self]; rfl
  · rw [List.append_assoc, List.getElem?_append_right (by omega), hl, show n + 2 - (n + 1) = 1 by omega]; rfl
  · rw [List.append_assoc, List.drop_append_of_le_length (by omega), hd]; rfl
section
variable {w : World}
set_option maxHeartbeats 64000000 in
theorem long_walk (hg : Gl w) : Calls Tryd.prog 4 #[] w fun e w' => e = .returned (.bool true) ∧ Chg (fun _ => False) w w' := by
  have HG := Lib.hid hg
  have hnw := new_ok (w := w) 1073741824 (by omega)
  simp only [show ((1073741824 : Nat) : Int) = 1073741824 from rfl] at hnw
  have HNEW := Lib.hid hnw
  clear hg hnw
  go_enter Tryd.func4, Tryd.ntmps4
  go_wp2_with (first | (go_at_call 6; refine stop ?_))
  refine go ?_
  refine HNEW.out.mono ?_
  rintro e w1 ⟨he, h1, v1⟩
  generalize w.heap.size + 1 = d at he h1 v1
  subst he
  have m1 := (Many.nil w).addDisk h1 v1
  have HOP := Lib.hid (open_new (nm := nL) m1 (by decide) (by simp [Dk.size, Dk.look, okL, Dm.get]))
  clear h1 v1 m1
  go_wp2_with (first | (go_at_call 7; refine stop ?_))
  refine go ?_
  refine HOP.out.mono ?_
  rintro e w2 ⟨j, G, rfl, m2⟩
  have M2 := Lib.hid m2
  clear m2
  go_wp2
  go_loopw [7] (fun t7 wr => ∃ (k : Nat) (D : Dk) (G : List Nat), t7 = .int .i64 (k : Int) ∧ k ≤ 300 ∧ FM 1073741824 D (rngR k) 0 ∧ Many w wr [Ent.house d j ⟨D, nL, endsOf (rngR k), 0, .nilIface⟩ G]) (fun t7 _ => 300 - (Lib.intOf t7).toNat)
  case atStart => exact ⟨0, _, G, rfl, Nat.zero_le _, FM.start _, M2.out⟩
  case round =>
    obtain ⟨k, D, G, rfl, hk, hF, hM⟩ := hrel
    have ik0 : (0 : Int) ≤ (k : Int) := by omega
    by_cases hlt : (k : Int) < 300
    · have d1 : decide ((k : Int) < 300) = true := decide_eq_true hlt
      have m1 := hM.alloc (.cells ([UInt8.ofNat k].map u8).toArray 5)
      have hfl := rngR_file k
      have hja := japp_m (r := [UInt8.ofNat k]) (p := some ⟨wr.heap.size, 0, none⟩) (c := 1) HG.out m1 hF (by decide) (by rw [rngR_len]; omega) (Nat.zero_le _) (by rw [atN_zero]; exact Nat.zero_le _) (rb_new wr [UInt8.ofNat k] 5 (0, 0)) (fun b hb hbG => by
        have h1 := hM.lt (x := Ent.house d j ⟨D, nL, endsOf (rngR k), 0, .nilIface⟩ G) (by simp) b hbG
        have : wr.heap.size = b := by simpa [sblk] using hb
        omega) (by simp) (by rw [hfl]; simp; omega)
      simp only [List.length_singleton] at hja
      have HJA := Lib.hid hja
      have HK := Lib.hid hk
      clear hk hF hM m1 hfl hja
      go_wp2_with (first | (go_at_call 9; refine stop ?_))
      rw [cell1 k]
      refine go ?_
      refine HJA.out.mono ?_
      rintro e w5 ⟨rfl, D1, G1, hF1, m5⟩
      rw [← rngR_succ] at hF1 m5
      have M5 := Lib.hid (And.intro hF1 m5)
      clear hF1 m5
      go_wp2
      go_roundw
      case rel => exact ⟨k + 1, D1, G1, by go_num, by omega, M5.out.1, M5.out.2⟩
      case measure => simp [Lib.intOf]; omega
    · obtain rfl : k = 300 := by omega
      have d1 : decide (((300 : Nat) : Int) < 300) = false := decide_eq_false hlt
      have hsy := jsync_m HG.out hM hF (by rw [rngR_len]; decide) (by rw [rngR_len]; decide) (by rw [atN_zero]; exact Nat.zero_le _)
      have HSY := Lib.hid hsy
      clear hF hM hsy hk ik0
      simp only [show ((300 : Nat) : Int) = 300 from rfl]
      go_wp2_with (first | (go_at_call 16; refine stop ?_))
      refine go ?_
      refine HSY.out.mono ?_
      rintro e w5 ⟨rfl, D5, G5, hF5, m5⟩
      have han := anew_any HG.out m5 hF5
      have HAN := Lib.hid han
      clear m5 hF5 han
      go_wp2_with (first | (go_at_call 20; refine stop ?_))
      refine go ?_
      refine HAN.out.mono ?_
      rintro e w6 ⟨rv, ls, rfl, hls, m6⟩
      have hll : ls.length = 300 := by have := congrArg List.length hls; rw [List.length_map, rngR_len] at this; exact this
      obtain ⟨pr, cr, rfl, hcap, -⟩ := id (show Recs w6 rv ls from m6.first).oc
      rw [hll] at m6 hcap ⊢
      have icr : (300 : Int) ≤ (cr : Int) := by omega
      have HLS := Lib.hid (And.intro hls hll)
      have M6 := Lib.hid (Many.sub m6 (.cons_cons _ (List.nil_sublist _)))
      clear hls hll m6 hcap
      go_wp2
      go_loopw [10] (fun t10 wr => ∃ k : Nat, t10 = .int .i64 (k : Int) ∧ k ≤ 300 ∧ Many w wr [Ent.recs (.slice pr 300 cr) ls]) (fun t10 _ => 300 - (Lib.intOf t10).toNat)
      case atStart => exact ⟨0, rfl, Nat.zero_le _, M6.out⟩
      case round =>
        obtain ⟨k, rfl, hk, hM⟩ := hrel
        have ik0 : (0 : Int) ≤ (k : Int) := by omega
        by_cases hlt2 : (k : Int) < 300
        · have d2 : decide ((k : Int) < 300) = true := decide_eq_true hlt2
          have hrec : Recs wr (.slice pr 300 cr) ls := hM.first
          obtain ⟨x, hx⟩ : ∃ x, ls[k]? = some x := ⟨_, List.getElem?_eq_getElem (by have := HLS.out.2; omega)⟩
          have hxb : x.bytes = [UInt8.ofNat k] := by
            have h1 : (ls.map LF.bytes)[k]? = some x.bytes := by rw [List.getElem?_map, hx]; rfl
            rw [HLS.out.1, rngR_get (by omega)] at h1
            exact (Option.some.inj h1).symm
          obtain ⟨rb, hrb⟩ := OC.blk1 hrec.oc (by have := HLS.out.2; omega)
          have hoc := hrec.oc
          rw [hrb] at hoc
          have q1 := (OC.atk hoc (j := k) (u := x.sv) (by rw [List.getElem?_map, hx]; rfl)).1
          change wr.cell? ⟨rb, k, none⟩ = some (.slice x.p x.bytes.length x.cap) at q1
          have hxo : OB wr 5 (.slice x.p x.bytes.length x.cap) x.bytes := hrec.each x (List.mem_of_getElem? hx)
          have heq := leq_any (w := wr.alloc (.cells ([UInt8.ofNat k].map u8).toArray 5)) (RC.chg (OB.rb hxo) ((Chg.refl (fun _ => False) wr).alloc _) fun _ _ h => h) (rb_new wr [UInt8.ofNat k] 5 (0, 0)) hxb
          simp only [List.length_singleton] at heq
          have HEQ := Lib.hid heq
          have HK := Lib.hid (And.intro hk hM)
          obtain ⟨xl, hxl⟩ : ∃ xl, xl = x.bytes.length := ⟨_, rfl⟩
          rw [← hxl] at q1 HEQ
          subst hrb
          clear hk hM hrec hx hxb hoc hxo heq hxl
          go_wp2_with (first | (go_at_call 21; refine stop ?_))
          rw [cell1 k]
          refine go ?_
          refine HEQ.out.mono ?_
          rintro e w' ⟨rfl, rfl⟩
          clear q1
          go_wp2
          go_roundw
          case rel => exact ⟨k + 1, by go_num, by omega, HK.out.2.alloc _⟩
          case measure => simp [Lib.intOf]; omega
        · have d2 : decide ((k : Int) < 300) = false := decide_eq_false hlt2
          have M7 := Lib.hid ((Many.sub hM (List.nil_sublist _)).addBytes (OB_nil wr 5) (Chg.refl _ _) (fun b hb => by cases hb))
          clear hk hM
          go_wp2
          go_loopw [11, 12] (fun t11 t12 wr => ∃ (bp : Option Addr) (bl bc k : Nat), t11 = .slice bp bl bc ∧ t12 = .int .i64 (k : Int) ∧ k ≤ 65600 ∧ bl = 16 * k ∧ Many w wr [Ent.bytes (.slice bp bl bc) (fileOf 0 (List.replicate k []))]) (fun _ t12 _ => 65600 - (Lib.intOf t12).toNat)
          case atStart => exact ⟨none, 0, 0, 0, rfl, rfl, Nat.zero_le _, rfl, M7.out⟩
          case round =>
            obtain ⟨bp, bl, bc, k, rfl, rfl, hk, hbl, hM⟩ := hrel
            have ik0 : (0 : Int) ≤ (k : Int) := by omega
            by_cases hlt3 : (k : Int) < 65600
            · have d3 : decide ((k : Int) < 65600) = true := decide_eq_true hlt3
              have HNUM := Lib.hid (number_any (w := wr) (k := k) (by omega))
              have HK := Lib.hid (And.intro hk (And.intro hbl hM))
              clear hk hbl hM
              go_wp2_with (first | (go_at_call 23; refine stop ?_))
              refine go ?_
              refine HNUM.out.mono ?_
              rintro e w3 ⟨v3, rfl, o3, c3, n3⟩
              obtain ⟨p3, cc3, rfl, -⟩ := id o3
              have m3 := HK.out.2.2.quiet c3
              have HWR := Lib.hid (wrap_any (HG.out.chg m3.chg) (OB.rb o3) (by rw [be4_len]; decide))
              have M3 := Lib.hid m3
              clear o3 c3 n3 m3
              go_wp2_with (first | (go_at_call 22; refine stop ?_))
              refine go ?_
              refine HWR.out.mono ?_
              rintro e w4 ⟨v4, rfl, o4, c4, n4⟩
              obtain ⟨p4, cc4, rfl, -⟩ := id o4
              have M4 := Lib.hid (And.intro (M3.out.quiet c4) o4)
              clear o4 c4 n4
              go_wp2_with (first | (at_builtin; refine stop ?_))
              refine go ?_
              refine wpList_append_bytes rfl _ _ rfl (v := .slice bp bl bc) (l := fileOf 0 (List.replicate k [])) (m := jwrap (be4 k)) rfl rfl M4.out.1.first (OB.rb M4.out.2) (by rw [rep_file, wrap_len, be4_len]; have := HK.out.1; omega) ?_
              intro pv lv cv w7 a1 a2 a3 a4
              have m7 := M4.out.1.growBytes a1 a2 a3
              rw [← rep_next] at m7
              have hlv : lv = 16 * (k + 1) := by have := (OB.lenEq a1).1; rw [List.length_append, rep_file, wrap_len, be4_len] at this; omega
              have M7 := Lib.hid (And.intro m7 hlv)
              clear a1 a2 a3 a4 m7 hlv
              go_wp2
              go_roundw
              case rel => exact ⟨pv, lv, cv, k + 1, by first | rfl | simp, by go_num, by omega, M7.out.2, M7.out.1⟩
              case measure => simp [Lib.intOf]; omega
            · have d3 : decide ((k : Int) < 65600) = false := decide_eq_false hlt3
              obtain rfl : k = 65600 := by omega
              obtain ⟨l0, hl0⟩ : ∃ l0, l0 = List.replicate 65600 ([] : List UInt8) := ⟨_, rfl⟩
              rw [← hl0] at hM
              have hl0l : l0.length = 65600 := by rw [hl0, List.length_replicate]
              have hl0f : (fileOf 0 l0).length = 1049600 := by rw [hl0, rep_file]
              have hl0s : ∀ x ∈ l0, x = [] := fun x hx => by rw [hl0] at hx; exact List.eq_of_mem_replicate hx
              obtain rfl : bl = 1049600 := by omega
              have hnw := new_ok (w := wr) 1073741824 (by omega)
              simp only [show ((1073741824 : Nat) : Int) = 1073741824 from rfl] at hnw
              have HNEW2 := Lib.hid hnw
              have HL0 := Lib.hid (And.intro hl0l (And.intro hl0f hl0s))
              have M8 := Lib.hid hM
              simp only [show ((65600 : Nat) : Int) = 65600 from rfl] at d3 hlt3 ik0 ⊢
              clear hl0 hl0l hl0f hl0s hnw hM hk hbl
              go_wp2_with (first | (go_at_call 6; refine stop ?_))
              refine go ?_
              refine HNEW2.out.mono ?_
              rintro e w8 ⟨he, h8, v8⟩
              generalize wr.heap.size + 1 = d2 at he h8 v8
              subst he
              have m9 := M8.out.addDisk h8 v8
              obtain ⟨D9, ha, hF9⟩ := FM.fill (lim := 1073741824) (hv := l0) (fun x hx => by rw [HL0.out.2.2 x hx]; exact Nat.zero_le _) (by rw [HL0.out.2.1]; decide)
              have hap9 := (List.pairwise_cons.1 m9.apart).1 (Ent.bytes (.slice bp 1049600 bc) (fileOf 0 l0)) (by simp)
              have happ := append_any (nm := nL) (by decide) m9.first (OB.rb (show OB w8 5 (.slice bp 1049600 bc) (fileOf 0 l0) from m9.get (x := Ent.bytes (.slice bp 1049600 bc) (fileOf 0 l0)) (by simp))) (fun k hk hkF => hap9 k hkF (by simp [Ent.bytes, hk]))
              rw [ha, HL0.out.2.1] at happ
              simp only [show ((1049600 : Nat) : Int) = 1049600 from rfl, show ((0 : Nat) : Int) = 0 from rfl] at happ
              have HAPP := Lib.hid happ
              have M9 := Lib.hid (And.intro m9 hF9)
              clear h8 v8 m9 ha hF9 hap9 happ
              go_wp2_with (first | (go_at_call 24; refine stop ?_))
              refine go ?_
              refine HAPP.out.mono ?_
              rintro e w10 ⟨rfl, hl10⟩
              obtain ⟨F10, m10⟩ := M9.out.1.left hl10
              obtain ⟨D11, ho, hF11⟩ := M9.out.2.opened
              have hop := open_any HG.out m10 (show nL.size ≤ maxLen by decide) (by rw [M9.out.2.bytes, HL0.out.2.1]; decide) ho
              have HOP11 := Lib.hid hop
              have HF11 := Lib.hid hF11
              clear hl10 m10 ho hF11 hop
              go_wp2_with (first | (go_at_call 7; refine stop ?_))
              refine go ?_
              refine HOP11.out.mono ?_
              rintro e w11 (⟨-, j2, G11, rv2, ls2, rfl, hls2, m11⟩ | ⟨h, -⟩)
              case inr => exact absurd rfl h
              have hll2 : ls2.length = 65600 := by rw [← HL0.out.1, ← hls2, List.length_map]
              obtain ⟨pr2, cr2, rfl, -⟩ := id (show Recs w11 rv2 ls2 from m11.get (x := Ent.recs rv2 ls2) (by simp)).oc
              rw [hll2]
              have m12 : Many w w11 [Ent.house d2 j2 ⟨D11, nL, endsOf l0, l0.length, .nilIface⟩ G11] := Many.sub m11 (.cons_cons _ (List.nil_sublist _))
              obtain ⟨NG, hNG⟩ : ∃ NG, NG = 131069 := ⟨_, rfl⟩
              have hmk := run_make_row' (P := Tryd.prog) 33 5 (.int .u8 0) 1 Tryd.underlying33 info_u8 rfl .i64 .i64 NG (by omega) (by omega) w11
              rw [show (NG : Int) = 131069 by omega] at hmk
              have m13 := m12.addBytes (made_full w11 (n := NG) (by omega)) ((Chg.refl _ _).alloc _) (fun b hb => by rw [sblk_new hb]; exact Nat.le_refl _)
              have M13 := Lib.hid m13
              have HNG := Lib.hid hNG
              have iNG : (NG : Int) ≤ 131069 := by omega
              have iNG2 : (131069 : Int) ≤ (NG : Int) := by omega
              clear hls2 hll2 m11 m12 m13 hNG
              (try simp only [show ((0 : Nat) : Int) = 0 from rfl])
              go_wp2
              clear hmk
              go_loopw [18] (fun t18 wr => ∃ (k : Nat) (bs : List UInt8), t18 = .int .i64 (k : Int) ∧ k ≤ NG ∧ bs.length = NG ∧ Many w wr [Ent.bytes (.slice (some ⟨w11.heap.size, 0, none⟩) bs.length NG) bs, Ent.house d2 j2 ⟨D11, nL, endsOf l0, l0.length, .nilIface⟩ G11]) (fun t18 _ => NG - (Lib.intOf t18).toNat)
              case atStart =>
                refine ⟨0, List.replicate NG 0, rfl, Nat.zero_le _, List.length_replicate, ?_⟩
                rw [List.length_replicate]
                exact M13.out
              case round =>
                obtain ⟨k, bs, rfl, hk, hbs, hM⟩ := hrel
                have ik0 : (0 : Int) ≤ (k : Int) := by omega
                by_cases hlt4 : (k : Int) < (NG : Int)
                · have d4 : decide ((k : Int) < (NG : Int)) = true := decide_eq_true hlt4
                  have d4n : decide (k < NG) = true := decide_eq_true (by omega)
                  obtain ⟨qc0, qz⟩ := OB.at_ (show OB wr 5 (.slice (some ⟨w11.heap.size, 0, none⟩) bs.length NG) bs from hM.first) (j := k) (by omega)
                  obtain ⟨ub, qc⟩ : ∃ ub : Value, wr.cell? ⟨w11.heap.size, k, none⟩ = some ub := ⟨_, qc0⟩
                  have ikN : (k : Int) ≤ 131069 := by omega
                  have HK := Lib.hid (And.intro hk (And.intro hbs hM))
                  clear qc0 hk hbs hM
                  go_wp2
                  go_roundw
                  case rel =>
                    have e : Value.int IntKind.u8 (((k : Int) + (k : Int) / 256 % 256 * 7) % 256) = u8 (UInt8.ofNat (k + k / 256 % 256 * 7)) := by rw [u8_nat]; congr 1
                    rw [e]
                    have hsb := HK.out.2.2.setByte (n := k) (by have := HK.out.2.1; omega) (UInt8.ofNat (k + k / 256 % 256 * 7))
                    exact ⟨k + 1, bs.set k (UInt8.ofNat (k + k / 256 % 256 * 7)), by go_num, by omega, (List.length_set ..).trans HK.out.2.1, (by rw [List.length_set]; first | done | exact hsb)⟩
                  case measure => simp [Lib.intOf]; omega
                · have d4 : decide ((k : Int) < (NG : Int)) = false := decide_eq_false hlt4
                  have d4n : decide (k < NG) = false := decide_eq_false (by omega)
                  clear hk
                  have hng0 : NG ≠ 0 := by have := HNG.out; omega
                  have hjb := japp_big (p := some ⟨w11.heap.size, 0, none⟩) (n := NG) (c := NG) HG.out hM.swap12 rfl (by show (endsOf l0).length ≤ _; rw [endsOf_len, HL0.out.1]; decide) (by have := HNG.out; omega) (by have := HNG.out; omega)
                  have HJB := Lib.hid hjb
                  have HBS := Lib.hid hbs
                  have HNZ := Lib.hid hng0
                  clear hM hjb hbs hng0
                  go_wp2_with (first | (go_at_call 9; refine stop ?_))
                  refine go ?_
                  refine HJB.out.mono ?_
                  rintro ev w14 ⟨b, rfl, m14⟩
                  have hcd := code_any (HG.out.chg m14.chg) b nApp _ 92 m14.first
                  simp only [show ((92 : Nat) : Int) = 92 from rfl] at hcd
                  have HCD := Lib.hid hcd
                  have M14 := Lib.hid m14.tail
                  have hfv : (faultV b) = .iface 88 (.pointer (some ⟨b, 0, none⟩)) := rfl
                  rw [hfv] at HCD ⊢
                  clear hcd m14 hfv
                  go_wp2_with (first | (go_at_call 11; refine stop ?_))
                  refine go ?_
                  refine HCD.out.mono ?_
                  rintro ev w15 ⟨rfl, c15⟩
                  have m15 := M14.out.quiet c15
                  obtain ⟨r1, hr1⟩ : ∃ r1, r1 = bs.take 131068 := ⟨_, rfl⟩
                  have hr1l : r1.length = 131068 := by rw [hr1, List.length_take, HBS.out, HNG.out]; rfl
                  have hob15 : OB w15 5 (.slice (some ⟨w11.heap.size, 0, none⟩) bs.length NG) bs := m15.get (x := Ent.bytes (.slice (some ⟨w11.heap.size, 0, none⟩) bs.length NG) bs) (by simp)
                  have hrb15 := RB_take rfl (OB.rb hob15) 131068 (by rw [HBS.out, HNG.out]; decide)
                  rw [← hr1] at hrb15
                  have hap15 := (List.pairwise_cons.1 m15.apart).1 (Ent.bytes (.slice (some ⟨w11.heap.size, 0, none⟩) bs.length NG) bs) (by simp)
                  have hja := japp_m (r := r1) (p := some ⟨w11.heap.size, 0, none⟩) (c := NG) HG.out m15 HF11.out (by decide) (by rw [HL0.out.1]; decide) (Nat.le_refl _) (by rw [atN_all]; exact Nat.le_refl _) (by rw [hr1l]; exact hrb15) (fun k hk hkG => hap15 k hkG (by
                    rw [sblk_some HNZ.out] at hk
                    show k ∈ (sblk (.slice (some ⟨w11.heap.size, 0, none⟩) bs.length NG)).toList
                    rw [sblk_some HNZ.out]
                    simpa using hk.symm)) (by rw [hr1l]; decide) (by rw [hr1l, HL0.out.2.1]; decide)
                  rw [hr1l] at hja
                  have HJA := Lib.hid hja
                  have HR1 := Lib.hid (And.intro hr1 hr1l)
                  have inm : (131068 : Int) ≤ (NG : Int) := by omega
                  clear c15 m15 hr1 hr1l hob15 hrb15 hap15 hja
                  go_wp2_with (first | (go_at_call 9; refine stop ?_))
                  refine go ?_
                  refine HJA.out.mono ?_
                  rintro ev w16 ⟨rfl, D16, G16, hF16, m16⟩
                  have m17 := m16.alloc (.cells (([7] : List UInt8).map u8).toArray 5)
                  have hja2 := japp_m (r := [7]) (p := some ⟨w16.heap.size, 0, none⟩) (c := 1) HG.out m17 hF16 (by decide) (by rw [List.length_append, HL0.out.1, List.length_singleton]; decide) (by rw [List.length_append]; exact Nat.le_add_right _ _) (by rw [atN_left]; exact Nat.le_refl _) (rb_new w16 [7] 5 (0, 0)) (fun k hk hkG => by
                    have h1 := m16.lt (x := Ent.house d2 j2 ⟨D16, nL, endsOf (l0 ++ [r1]), l0.length, .nilIface⟩ G16) (by simp) k hkG
                    have : w16.heap.size = k := by simpa [sblk] using hk
                    omega) (by simp) (by rw [fileOf_snoc, List.length_append, wrap_len, payload_len, HL0.out.2.1, HR1.out.2]; decide)
                  simp only [List.length_singleton] at hja2
                  have HJA2 := Lib.hid hja2
                  clear hF16 m16 m17 hja2
                  go_wp2_with (first | (go_at_call 9; refine stop ?_))
                  rw [cell7]
                  refine go ?_
                  refine HJA2.out.mono ?_
                  rintro ev w18 ⟨rfl, D18, G18, hF18, m18⟩
                  obtain ⟨hv2, hhv2⟩ : ∃ hv2, hv2 = l0 ++ [r1] ++ [[7]] := ⟨_, rfl⟩
                  have hat2 : atN hv2 l0.length = (fileOf 0 l0).length := by rw [hhv2, List.append_assoc, atN_left]
                  have hv2l : hv2.length = 65602 := by rw [hhv2, List.length_append, List.length_append, HL0.out.1]; rfl
                  obtain ⟨t0, t1, t2, t3⟩ := long_tail (n := 65599) HL0.out.1 HL0.out.2.2 r1 [7]
                  rw [← hhv2] at hF18 m18 t0 t1 t2 t3
                  have HV2 := Lib.hid (And.intro hv2l (And.intro t0 (And.intro t1 (And.intro t2 t3))))
                  have hsy := jsync_m HG.out m18 hF18 (by rw [hv2l]; decide) (by rw [hv2l, HL0.out.1]; decide) (by rw [hat2]; exact Nat.le_refl _)
                  have HSY2 := Lib.hid hsy
                  clear hF18 m18 hhv2 hat2 hv2l t0 t1 t2 t3 hsy
                  go_wp2_with (first | (go_at_call 16; refine stop ?_))
                  refine go ?_
                  refine HSY2.out.mono ?_
                  rintro ev w19 ⟨rfl, D19, G19, hF19, m19⟩
                  obtain ⟨Fx, vx, hrawx, hGx⟩ := m19.first
                  have hle := jlen_any hrawx.jrn
                  simp only [endsOf_len, HV2.out.1, show ((65602 : Nat) : Int) = 65602 from rfl] at hle
                  have HLE := Lib.hid hle
                  have han2 := anew_any HG.out m19 hF19
                  have HAN2 := Lib.hid han2
                  have HF19 := Lib.hid hF19
                  clear hF19 m19 hrawx hGx hle han2
                  go_wp2_with (first | (go_at_call 13; refine HLE.out.mono ?_; rintro e w' ⟨rfl, rfl⟩) | (go_at_call 20; refine stop ?_))
                  refine go ?_
                  refine HAN2.out.mono ?_
                  rintro ev w20 ⟨rv3, ls3, rfl, hls3, m20⟩
                  have hln3 : ls3.length = 65602 := by rw [← HV2.out.1, ← hls3, List.length_map]
                  have hrec3 : Recs w20 rv3 ls3 := m20.first
                  obtain ⟨pr3, cr3, rfl, hcap3, -⟩ := id hrec3.oc
                  have hgt3 : ∀ (i : Nat) (b : List UInt8), hv2[i]? = some b → ∃ x : LF, ls3[i]? = some x ∧ x.bytes = b := fun i b h => by
                    have h1 : (ls3.map LF.bytes)[i]? = some b := by rw [hls3]; exact h
                    rw [List.getElem?_map, Option.map_eq_some_iff] at h1
                    exact h1
                  obtain ⟨x0, hx0, hb0⟩ := hgt3 65599 [] HV2.out.2.1
                  obtain ⟨x1, hx1, hb1⟩ := hgt3 65600 r1 HV2.out.2.2.1
                  obtain ⟨x2, hx2, hb2⟩ := hgt3 65601 [7] HV2.out.2.2.2.1
                  obtain ⟨rb3, hrb3⟩ := OC.blk1 hrec3.oc (by rw [hln3]; decide)
                  have hoc3 := hrec3.oc
                  rw [hrb3] at hoc3
                  have q0 := (OC.atk hoc3 (j := 65599) (u := x0.sv) (by rw [List.getElem?_map, hx0]; rfl)).1
                  have q1 := (OC.atk hoc3 (j := 65600) (u := x1.sv) (by rw [List.getElem?_map, hx1]; rfl)).1
                  have q2 := (OC.atk hoc3 (j := 65601) (u := x2.sv) (by rw [List.getElem?_map, hx2]; rfl)).1
                  change w20.cell? ⟨rb3, 65599, none⟩ = some (.slice x0.p x0.bytes.length x0.cap) at q0
                  change w20.cell? ⟨rb3, 65600, none⟩ = some (.slice x1.p x1.bytes.length x1.cap) at q1
                  change w20.cell? ⟨rb3, 65601, none⟩ = some (.slice x2.p x2.bytes.length x2.cap) at q2
                  rw [hb0] at q0
                  rw [hb1, HR1.out.2] at q1
                  rw [hb2] at q2
                  simp only [List.length_nil, List.length_singleton] at q0 q2
                  have hox1 : OB w20 5 (.slice x1.p x1.bytes.length x1.cap) x1.bytes := hrec3.each x1 (List.mem_of_getElem? hx1)
                  have hox2 : OB w20 5 (.slice x2.p x2.bytes.length x2.cap) x2.bytes := hrec3.each x2 (List.mem_of_getElem? hx2)
                  have hog : OB w20 5 (.slice (some ⟨w11.heap.size, 0, none⟩) bs.length NG) bs := m20.get (x := Ent.bytes (.slice (some ⟨w11.heap.size, 0, none⟩) bs.length NG) bs) (by simp)
                  have hrg := RB_take rfl (OB.rb hog) 131068 (by rw [HBS.out, HNG.out]; decide)
                  rw [← HR1.out.1] at hrg
                  have hdr := (Chg.refl (fun _ => False) w20).drew
                  have heq1 := leq_any (w := (w20).drew) (RC.chg (OB.rb hox1) hdr fun _ _ h => h) (b := r1) (q := some ⟨w11.heap.size, 0, none⟩) (c' := NG) (by rw [HR1.out.2]; exact RC.chg hrg hdr fun _ _ h => h) hb1
                  rw [hb1, HR1.out.2] at heq1
                  have heq2 := leq_any (w := ((w20).drew).alloc (.cells (([7] : List UInt8).map u8).toArray 5)) (RC.chg (OB.rb hox2) (hdr.alloc _) fun _ _ h => h) (rb_new (w20).drew [7] 5 (0, 0)) hb2
                  rw [hb2] at heq2
                  simp only [List.length_singleton] at heq2
                  have HEQ1 := Lib.hid heq1
                  have HEQ2 := Lib.hid heq2
                  have M20 := Lib.hid m20
                  have icr3 : (65602 : Int) ≤ (cr3 : Int) := by omega
                  rw [hln3] at M20 ⊢
                  subst hrb3
                  clear hln3 hrec3 hcap3 hgt3 hx0 hx1 hx2 hb0 hb1 hb2 hoc3 hox1 hox2 hog hrg hdr heq1 heq2 m20 hls3
                  go_wp2
                  refine Rx.ws_region (fun w' => w'.cell? ⟨rb3, 65601, none⟩ = some (.slice x2.p 1 x2.cap)) [(0, .r), (1, .r), (2, .r), (3, .r), (4, .r), (5, .r), (6, .r), (7, .r), (8, .r), (9, .r), (10, .r), (11, .r), (12, .r), (13, .r), (14, .r), (15, .r), (16, .r), (17, .r), (18, .r), (19, .r), (20, .e), (21, .r), (22, .r), (23, .r), (24, .h), (25, .h), (26, .h), (27, .e), (28, .e), (29, .r), (30, .r)] (by kernel_rfl) (by kernel_rfl) q2 (fun _ _ x _ _ h => (by cases x <;> exact h)) ?_
                  iterate 20 (refine Rx.ws_q rfl rfl ?_; go_wp2; refine Rx.atS_mk ?_)
                  refine Rx.ws_e rfl ?_
                  go_wp2_with (first | (go_at_call 21; refine stop ?_))
                  refine go ?_
                  refine HEQ1.out.mono ?_
                  rintro e w' ⟨rfl, rfl⟩
                  go_wp2
                  refine ⟨(by exact q2), ?_⟩
                  iterate 3 (refine Rx.ws_q rfl rfl ?_; go_wp2; refine Rx.atS_mk ?_)
                  iterate 3 (refine Rx.ws_h (v := ?_) rfl rfl ?_ ?_; rotate_left; (intro w' hS'; go_simp; try with_reducible rfl))
                  refine Rx.ws_e rfl ?_
                  go_wp2
                  refine ⟨(by exact Chg.cellSome (((Chg.refl (fun _ => False) w20).alloc _).drew) q2), ?_⟩
                  refine Rx.ws_e rfl ?_
                  go_wp2_with (first | (go_at_call 21; refine stop ?_))
                  rw [cell7]
                  refine go ?_
                  refine HEQ2.out.mono ?_
                  rintro e w' ⟨rfl, rfl⟩
                  go_wp2
                  refine ⟨(by exact Chg.cellSome (((Chg.refl (fun _ => False) w20).alloc _).drew) q2), ?_⟩
                  iterate 2 (refine Rx.ws_q rfl rfl ?_; go_wp2; refine Rx.atS_mk ?_)
                  refine Rx.ws_nil ?_
                  have m21 := M20.out.quiet (((Chg.refl (fun _ => False) w20).alloc (.cells (([7] : List UInt8).map u8).toArray 5)).drew)
                  have m22 := Many.sub m21 (.cons _ (List.Sublist.refl _))
                  have hjr := jrange_any (lo := 65599) (hi := 65602) HG.out m22 (show nL.size ≤ maxLen by decide) (by rw [HV2.out.1]; decide) (by have := HF19.out.fit; omega) (by decide) (by rw [HV2.out.1]; decide) (HF19.out.range (by decide) (by rw [HV2.out.1]; decide))
                  simp only [show ((65599 : Nat) : Int) = 65599 from rfl, show ((65602 : Nat) : Int) = 65602 from rfl] at hjr
                  have HJR := Lib.hid hjr
                  clear q0 q1 q2 m21 m22 hjr HEQ1 HEQ2 M20
                  go_wp2_with (first | (go_at_call 25; refine stop ?_))
                  refine go ?_
                  refine HJR.out.mono ?_
                  rintro e w23 (⟨-, rv4, ls4, rfl, hls4, m23⟩ | ⟨h, -⟩)
                  case inr => exact absurd rfl h
                  rw [show (65602 : Nat) - 65599 = 3 from rfl, HV2.out.2.2.2.2] at hls4
                  have hln4 : ls4.length = 3 := by have := congrArg List.length hls4; rw [List.length_map] at this; exact this
                  have hrec4 : Recs w23 rv4 ls4 := m23.first
                  obtain ⟨pr4, cr4, rfl, hcap4, -⟩ := id hrec4.oc
                  have hgt4 : ∀ (i : Nat) (b : List UInt8), [[], r1, [7]][i]? = some b → ∃ x : LF, ls4[i]? = some x ∧ x.bytes = b := fun i b h => by
                    have h1 : (ls4.map LF.bytes)[i]? = some b := by rw [hls4]; exact h
                    rw [List.getElem?_map, Option.map_eq_some_iff] at h1
                    exact h1
                  obtain ⟨y0, hy0, hc0⟩ := hgt4 0 [] rfl
                  obtain ⟨y1, hy1, hc1⟩ := hgt4 1 r1 rfl
                  obtain ⟨y2, hy2, hc2⟩ := hgt4 2 [7] rfl
                  obtain ⟨rb4, hrb4⟩ := OC.blk1 hrec4.oc (by rw [hln4]; decide)
                  have hoc4 := hrec4.oc
                  rw [hrb4] at hoc4
                  have q0 := (OC.atk hoc4 (j := 0) (u := y0.sv) (by rw [List.getElem?_map, hy0]; rfl)).1
                  have q1 := (OC.atk hoc4 (j := 1) (u := y1.sv) (by rw [List.getElem?_map, hy1]; rfl)).1
                  have q2 := (OC.atk hoc4 (j := 2) (u := y2.sv) (by rw [List.getElem?_map, hy2]; rfl)).1
                  change w23.cell? ⟨rb4, 0, none⟩ = some (.slice y0.p y0.bytes.length y0.cap) at q0
                  change w23.cell? ⟨rb4, 1, none⟩ = some (.slice y1.p y1.bytes.length y1.cap) at q1
                  change w23.cell? ⟨rb4, 2, none⟩ = some (.slice y2.p y2.bytes.length y2.cap) at q2
                  rw [hc0] at q0
                  rw [hc1, HR1.out.2] at q1
                  rw [hc2] at q2
                  simp only [List.length_nil, List.length_singleton] at q0 q2
                  have hoy1 : OB w23 5 (.slice y1.p y1.bytes.length y1.cap) y1.bytes := hrec4.each y1 (List.mem_of_getElem? hy1)
                  have hoy2 : OB w23 5 (.slice y2.p y2.bytes.length y2.cap) y2.bytes := hrec4.each y2 (List.mem_of_getElem? hy2)
                  have hog : OB w23 5 (.slice (some ⟨w11.heap.size, 0, none⟩) bs.length NG) bs := m23.get (x := Ent.bytes (.slice (some ⟨w11.heap.size, 0, none⟩) bs.length NG) bs) (by simp)
                  have hrg := RB_take rfl (OB.rb hog) 131068 (by rw [HBS.out, HNG.out]; decide)
                  rw [← HR1.out.1] at hrg
                  have hdr := (Chg.refl (fun _ => False) w23).drew
                  have heq1 := leq_any (w := w23.drew) (RC.chg (OB.rb hoy1) hdr fun _ _ h => h) (b := r1) (q := some ⟨w11.heap.size, 0, none⟩) (c' := NG) (by rw [HR1.out.2]; exact RC.chg hrg hdr fun _ _ h => h) hc1
                  rw [hc1, HR1.out.2] at heq1
                  have heq2 := leq_any (w := (w23.drew).alloc (.cells (([7] : List UInt8).map u8).toArray 5)) (RC.chg (OB.rb hoy2) (hdr.alloc _) fun _ _ h => h) (rb_new w23.drew [7] 5 (0, 0)) hc2
                  rw [hc2] at heq2
                  simp only [List.length_singleton] at heq2
                  have HEQ1 := Lib.hid heq1
                  have HEQ2 := Lib.hid heq2
                  have HC23 := Lib.hid m23.chg
                  have icr4 : (3 : Int) ≤ (cr4 : Int) := by omega
                  rw [hln4]
                  subst hrb4
                  clear hln4 hrec4 hcap4 hgt4 hy0 hy1 hy2 hc0 hc1 hc2 hoc4 hoy1 hoy2 hog hrg hdr heq1 heq2 m23 hls4
                  go_wp2
                  refine Rx.ws_region (fun w' => w'.cell? ⟨rb4, 2, none⟩ = some (.slice y2.p 1 y2.cap)) [(0, .r), (1, .r), (2, .r), (3, .r), (4, .r), (5, .r), (6, .r), (7, .r), (8, .r), (9, .r), (10, .r), (11, .r), (12, .r), (13, .r), (14, .r), (15, .r), (16, .r), (17, .r), (18, .r), (19, .r), (20, .e), (21, .r), (22, .r), (23, .h), (24, .h), (25, .h), (26, .e), (27, .e), (28, .r), (29, .r)] (by kernel_rfl) (by kernel_rfl) q2 (fun _ _ x _ _ h => (by cases x <;> exact h)) ?_
                  iterate 20 (refine Rx.ws_q rfl rfl ?_; go_wp2; refine Rx.atS_mk ?_)
                  refine Rx.ws_e rfl ?_
                  go_wp2_with (first | (go_at_call 21; refine stop ?_))
                  refine go ?_
                  refine HEQ1.out.mono ?_
                  rintro e w' ⟨rfl, rfl⟩
                  go_wp2
                  refine ⟨(by exact q2), ?_⟩
                  iterate 2 (refine Rx.ws_q rfl rfl ?_; go_wp2; refine Rx.atS_mk ?_)
                  iterate 3 (refine Rx.ws_h (v := ?_) rfl rfl ?_ ?_; rotate_left; (intro w' hS'; go_simp; try with_reducible rfl))
                  refine Rx.ws_e rfl ?_
                  go_wp2
                  refine ⟨(by exact Chg.cellSome (((Chg.refl (fun _ => False) w23).alloc _).drew) q2), ?_⟩
                  refine Rx.ws_e rfl ?_
                  go_wp2_with (first | (go_at_call 21; refine stop ?_))
                  rw [cell7]
                  refine go ?_
                  refine HEQ2.out.mono ?_
                  rintro e w' ⟨rfl, rfl⟩
                  go_wp2
                  refine ⟨(by exact Chg.cellSome (((Chg.refl (fun _ => False) w23).alloc _).drew) q2), ?_⟩
                  iterate 2 (refine Rx.ws_q rfl rfl ?_; go_wp2; refine Rx.atS_mk ?_)
                  refine Rx.ws_nil ?_
                  go_wp2
                  go_ret
                  exact ⟨by simp, (HC23.out.drew).alloc _⟩
end
end Go.Proofs
