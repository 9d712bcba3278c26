/- JournalFull's walk. Conditions: the records are read; there are at most 1048576, each of at most 1048576 bytes; the listed variables lie as they were laid. -/
import Derived.Test.YtaiaghfckhgnnaaDoorJk
import Derived.Test.YtaiaghfckhgnnaaDoorJl
namespace Go.Proofs
open Go.RowKit Go.Hp Go.Dm Go.Dr Go.Jn
set_option linter.unusedVariables false
set_option maxRecDepth 10000
section
variable {W w w1 w2 : World} {L : List Ent}
/-- bytes put behind the records -/
theorem Many.pushRec {v v' : Value} {ls : List LF} {x : LF} (h : Many W w (Ent.bytes x.sv x.bytes :: Ent.recs v ls :: L)) (hc : Chg (fun _ => False) w w1)
    (ho : OC w2 1 33 v' (ls.map LF.sv ++ [x.sv]).length (ls.map LF.sv ++ [x.sv])) (h2 : Chg (fun b => sblk v = some b) w1 w2) (hb : ∀ b, sblk v' = some b → sblk v = some b ∨ w1.heap.size ≤ b) : Many W w2 (Ent.recs v' (ls ++ [x]) :: L) := by
  have h1 := h.quiet hc
  have hx : OB w1 5 x.sv x.bytes := h1.first
  have hr : Recs w1 v ls := h1.tail.first
  have hap := (List.pairwise_cons.1 h1.apart).1 (Ent.recs v ls) (by simp)
  have hxv : ∀ k, sblk x.sv = some k → sblk v ≠ some k := fun k hk e => hap k (by simp [Ent.bytes, hk]) (by simp [Ent.recs, rblks, e])
  have hold : ∀ y ∈ ls ++ [x], ∀ k, sblk y.sv = some k → k < w1.heap.size ∧ sblk v ≠ some k := fun y hy k hk => by
    rcases List.mem_append.1 hy with hy | hy
    · exact ⟨OC.lt (hr.each y hy) hk, hr.off y hy k hk⟩
    · obtain rfl : y = x := by simpa using hy
      exact ⟨OC.lt hx hk, hxv k hk⟩
  have hrec : Recs w2 v' (ls ++ [x]) := by
    refine ⟨?_, fun y hy => ?_, fun y hy k hk e => ?_⟩
    · rw [List.length_append, List.map_append]
      rw [List.length_append, List.length_map] at ho
      exact ho
    · have h0 : OB w1 5 y.sv y.bytes := by
        rcases List.mem_append.1 hy with hy | hy
        · exact hr.each y hy
        · obtain rfl : y = x := by simpa using hy
          exact hx
      exact OC.chg h0 h2 fun k hk e => (hold y hy k hk).2 e
    · obtain ⟨h3, h4⟩ := hold y hy k hk
      rcases hb k e with h5 | h5
      · exact h4 h5
      · omega
  let z : Ent := ⟨(sblk x.sv).toList ++ rblks v ls, fun w => OB w 5 x.sv x.bytes ∧ Recs w v ls⟩
  have gz : z.Good := ⟨fun h hk => ⟨OC.keep h.1 fun b hb => hk b (by simp [z, hb]), h.2.keep fun k hk' => hk k (List.mem_append.2 (.inr hk'))⟩,
    fun h k hk => (List.mem_append.1 hk).elim (fun hk => OC.lt h.1 (by simpa using hk)) (fun hk => h.2.lt k hk)⟩
  refine (h1.join (z := z) ⟨hx, hr⟩ gz fun k hk => List.mem_append.1 hk).turn (y := Ent.recs v' (ls ++ [x])) hrec (good_recs _ _) ⟨h2.mono fun k hk => .inl (List.mem_append.2 (.inr (by simp [rblks, hk]))), fun k hk => ?_⟩
  rcases List.mem_append.1 hk with hk | hk
  · rcases hb k (by simpa using hk) with h5 | h5
    · exact .inl (List.mem_append.2 (.inr (by simp [rblks, h5])))
    · exact .inr h5
  · rw [List.flatMap_append] at hk
    rcases List.mem_append.1 hk with hk | hk
    · exact .inl (List.mem_append.2 (.inr (List.mem_append.2 (.inr hk))))
    · exact .inl (List.mem_append.2 (.inl (by simpa [LF.blk] using hk)))
theorem Many.drop2b {x y z : Ent} (h : Many W w (x :: y :: z :: L)) : Many W w (x :: z :: L) := (h.swap12.tail)
/-- a house's disk alone -/
theorem Many.unhouse {d j : Nat} {H : Hs} {G : List Nat} (h : Many W w (Ent.house d j H G :: L)) : ∃ F, Many W w (Ent.disk d H.D F :: L) := by
  obtain ⟨F, v, hr, rfl⟩ := h.first
  exact ⟨F, h.turn (y := Ent.disk d H.D F) hr.disk (good_disk _ _ _) ⟨Chg.refl _ _, fun k hk => .inl (List.mem_append.2 (.inl hk))⟩⟩
/-- a call on the disk of a house -/
theorem Many.houseDisk {d j : Nat} {H : Hs} {G : List Nat} {D' : Dk} (h : Many W w (Ent.house d j H G :: L)) (hl : ∀ F, DRep w d H.D F → Left w d F D' w2) : ∃ G', Many W w2 (Ent.house d j { H with D := D' } G' :: L) := by
  obtain ⟨F, v, hr, rfl⟩ := h.first
  obtain ⟨F', h1, h2⟩ := hr.left (hl F hr.disk)
  exact ⟨_, h.turn (y := Ent.house d j { H with D := D' } (F' ++ jbl j v)) ⟨F', v, h1, rfl⟩ (good_house _ _ _ _) h2⟩
end
section
variable {w : World} {ls : List LF} {p : Option Addr} {c : Nat}
set_option maxHeartbeats 16000000 in
theorem full_walk (n : Int) (hg : Gl w) (hr : RRows w (.slice p ls.length c) ls) (hn : ls.length ≤ 1048576) (hb : ∀ x ∈ ls, x.bytes.length ≤ 1048576) :
    Calls Tryd.prog 3 #[.int .i64 n, .slice p ls.length c] w fun e w' => e = .returned (.bool true) ∧ Chg (fun _ => False) w w' := by
  have HREST := Lib.hid (rest_any (w := w) n (m := 1000) (by decide) (by decide))
  obtain ⟨N, hN⟩ : ∃ N, N = ls.length := ⟨_, rfl⟩
  rw [← hN]
  rw [← hN] at hr
  have iN : (N : Int) ≤ 1048576 := by omega
  have HP := Lib.hid (And.intro hg (And.intro hr (And.intro hb hN)))
  clear hg hr hn hb hN
  simp only [show ((1000 : Nat) : Int) = 1000 from rfl] at HREST
  go_enter Tryd.func3, Tryd.ntmps3
  go_wp2_with (first | (go_at_call 5; refine stop ?_))
  refine go ?_
  refine HREST.out.mono ?_
  rintro e w0 ⟨most, hm, rfl, rfl⟩
  have HNEW := Lib.hid (new_ok (w := w) most (by omega))
  have im : (most : Int) < 1000 := by omega
  have HM := Lib.hid hm
  clear hm
  go_wp2_with (first | (go_at_call 6; refine stop ?_))
  refine go ?_
  refine HNEW.out.mono ?_
  rintro e w1 ⟨he, h1, v1⟩
  generalize w.heap.size + 1 = d at he h1 v1
  subst he
  have m1 := (Many.nil w).add (y := Ent.disk d ⟨most, [], false, 0, 0⟩ _) (v1.chg.mono fun k hk => by cases hk) h1 (good_disk _ _ _) (fun k hk => (v1.new k hk).elim (fun h => by cases h) id)
  have HOP := Lib.hid (open_new (nm := nL) m1 (by decide) (by simp [Dk.size, Dk.look, okL, Dm.get]))
  clear h1 v1 m1
  go_wp2_with (first | (go_at_call 7; refine stop ?_))
  refine go ?_
  refine HOP.out.mono ?_
  rintro e w2 ⟨j, G, rfl, m2⟩
  have m3 : Many w w2 (Ent.house d j ⟨⟨most, [], false, 0, 0⟩, nL, endsOf [], 0⟩ G :: Ent.recs (.slice none 0 0) [] :: []) := (m2.add (y := Ent.recs (.slice none 0 0) []) (Chg.refl _ _) (Recs.nil _) (good_recs _ _) (by simp [Ent.recs, rblks, sblk])).swap12
  have M3 := Lib.hid m3
  clear m2 m3
  go_wp2
  go_loopw [12, 13, 14] (fun t12 t13 t14 wr => ∃ (hp : Option Addr) (hc : Nat) (hs : List LF) (D : Dk) (G : List Nat) (i : Nat), t12 = .slice hp hs.length hc ∧ t13 = .int .i64 ((fileOf 0 (hs.map LF.bytes)).length : Int) ∧ t14 = .int .i64 (i : Int) ∧ i ≤ N ∧ hs.length ≤ i ∧ i ≤ 40 ∧
    (∀ x ∈ hs, x.bytes.length ≤ 200) ∧ FS most D (hs.map LF.bytes) ∧ Many w wr [Ent.house d j ⟨D, nL, endsOf (hs.map LF.bytes), 0⟩ G, Ent.recs (.slice hp hs.length hc) hs]) (fun _ _ t14 _ => N - (Lib.intOf t14).toNat)
  case atStart => exact ⟨none, 0, [], _, _, 0, rfl, rfl, rfl, Nat.zero_le _, Nat.le_refl _, by omega, by simp, FS.start most, M3.out⟩
  case round =>
    obtain ⟨hp, hc, hs, D, G, i, rfl, rfl, rfl, hi, hsi, hi40, h200, hFS, hM⟩ := hrel
    have HR := Lib.hid (And.intro h200 (And.intro hFS (And.intro hM (And.intro hi (And.intro hsi hi40)))))
    obtain ⟨U, hU⟩ : ∃ U, U = (fileOf 0 (hs.map LF.bytes)).length := ⟨_, rfl⟩
    have hUm : U ≤ most := by rw [hU]; exact hFS.fit
    rw [← hU]
    have HU := Lib.hid (And.intro hU hUm)
    have ii0 : (0 : Int) ≤ (i : Int) := by omega
    have iU : (U : Int) < 1000 := by omega
    have iU0 : (0 : Int) ≤ (U : Int) := by omega
    have ish : (hs.length : Int) ≤ 40 := by omega
    clear h200 hFS hM hi hsi hU hUm
    by_cases hil : (i : Int) < (N : Int)
    · by_cases hi4 : (i : Int) < 40
      · have d1 : decide ((i : Int) < (N : Int)) = true := decide_eq_true hil
        have d2 : decide ((i : Int) < 40) = true := decide_eq_true hi4
        obtain ⟨x, hx⟩ : ∃ x, ls[i]? = some x := ⟨_, List.getElem?_eq_getElem (by have := HP.out.2.2.2; omega)⟩
        have hxl : x.bytes.length ≤ 1048576 := HP.out.2.2.1 x (List.mem_of_getElem? hx)
        have hMk := HR.out.2.2.1
        obtain ⟨b0, o0, rfl, -, hNc, q1, rbx⟩ := (HP.out.2.1.chg hMk.chg).at_ hx
        have iNc : (N : Int) ≤ (c : Int) := by omega
        have HREC := Lib.hid (lrecord_any rbx (by omega))
        have ixl : (x.bytes.length : Int) ≤ 1048576 := by omega
        clear hx hMk hNc rbx hxl
        go_wp2_with (first | (go_at_call 8; refine stop ?_))
        refine go ?_
        refine HREC.out.mono ?_
        rintro e w3 ⟨v3, rfl, o3, c3, n3⟩
        obtain ⟨r, hr⟩ : ∃ r, r = x.bytes.take 200 := ⟨_, rfl⟩
        rw [← hr] at o3
        have hrl : r.length ≤ 200 := by rw [hr, List.length_take]; omega
        obtain ⟨pr, cr, rfl, -⟩ := id o3
        have m4 := HR.out.2.2.1.addBytes o3 c3 n3
        have HCP := Lib.hid (copied_any (by omega) (OB.rb o3))
        have M4 := Lib.hid m4
        obtain ⟨R, hR⟩ : ∃ R, R = r.length := ⟨_, rfl⟩
        rw [← hR]
        have HRL := Lib.hid (And.intro hR hrl)
        have iR : (R : Int) ≤ 200 := by omega
        have iR0 : (0 : Int) ≤ (R : Int) := by omega
        rw [← hR] at HCP
        clear o3 c3 n3 hrl m4 hR q1 hr
        go_wp2_with (first | (go_at_call 10; refine stop ?_))
        refine go ?_
        refine HCP.out.mono ?_
        rintro e w4 ⟨v4, rfl, o4, c4, n4⟩
        obtain ⟨p4, cc4, rfl, -⟩ := id o4
        rw [← HRL.out.1]
        have m5 := (M4.out.quiet c4).swap12
        obtain ⟨F5, v5, hraw, hG⟩ := m5.first
        have hg5 : Gl w4 := HP.out.1.chg m5.chg
        have hF2 : ∀ k ∈ F5 ++ jbl j v5, 1 < k := fun k hk => by
          have h1 := m5.new (Ent.house d j ⟨D, nL, endsOf (hs.map LF.bytes), 0⟩ G) (by simp) k (by rw [← hG] at hk; exact hk)
          have := HP.out.1.lt
          omega
        have hap : ∀ k, sblk (.slice p4 r.length cc4) = some k → k ∉ F5 ++ jbl j v5 := fun k hk hkF => by
          have h1 := n4 k hk
          have h2 := M4.out.lt (x := Ent.house d j ⟨D, nL, endsOf (hs.map LF.bytes), 0⟩ G) (by simp) k (by rw [← hG] at hkF; exact hkF)
          omega
        have hel : (endsOf (hs.map LF.bytes)).length = (hs.map LF.bytes).length := endsOf_len _
        have hsl : hs.length ≤ 40 := by omega
        have hle : (endsOf (hs.map LF.bytes)).length ≤ 2147483647 := by rw [hel, List.length_map]; omega
        have hlk : lookE D nL (endsOf (hs.map LF.bytes)) 0 = 0 := HR.out.2.1.look
        have hz : endN (endsOf (hs.map LF.bytes)) (endsOf (hs.map LF.bytes)).length ≤ 1099511627776 := by rw [endsOf_end, ← HU.out.1]; have := HU.out.2; have := HM.out; omega
        by_cases hfit : (U : Int) + 16 + (R : Int) ≤ (most : Int)
        · have d3 : decide ((U : Int) + 16 + (R : Int) ≤ (most : Int)) = true := decide_eq_true hfit
          obtain ⟨D1, ha, hFS1⟩ := HR.out.2.1.app_ok (r := r) (by rw [← HU.out.1, ← HRL.out.1]; omega)
          rw [← hel] at ha
          have hja := japp_ok hg5 hraw (show nL.size ≤ maxLen by decide) hle (Nat.zero_le _) hlk (OB.rb o4) hap hF2 (by have := HRL.out.2; omega) hz ha
          rw [← HRL.out.1] at hja
          have HJA := Lib.hid hja
          have M5 := Lib.hid (And.intro m5 (And.intro hG hFS1))
          clear m5 hraw hG hg5 hF2 hap hel hsl hle hlk hz o4 c4 n4 ha hFS1 hja
          go_wp2_with (first | (go_at_call 9; refine stop ?_))
          refine go ?_
          refine HJA.out.mono ?_
          rintro e w5 ⟨rfl, hl5⟩
          obtain ⟨G6, m6⟩ := M5.out.1.housed (by rw [M5.out.2.1]; exact hl5)
          have M6 := Lib.hid m6.back3
          clear hl5 m6
          go_wp2_with (first | (at_builtin; refine stop ?_))
          refine go ?_
          have hc6 : Chg (fun _ => False) w5 (w5.alloc (.cells #[.slice pr R cr] 33)) := (Chg.refl _ w5).alloc _
          have hrec6 : Recs (w5.alloc (.cells #[.slice pr R cr] 33)) (.slice hp hs.length hc) hs := (M6.out.quiet hc6).get (x := Ent.recs (.slice hp hs.length hc) hs) (by simp)
          have HR6 := Lib.hid (And.intro hc6 hrec6)
          clear hc6 hrec6
          refine wpList_append_rows rfl _ _ rfl (v := .slice hp hs.length hc) (l := hs.map LF.sv) (m := [.slice pr R cr]) rfl rfl (by rw [List.length_map]; exact HR6.out.2.oc) (OC_new w5 1 33 #[.slice pr R cr] 1 1 (by decide) (by unfold maxLen; decide) rfl).rc (by simp [Value.oneCell']) (by simp; omega) ?_
          intro hp7 lv7 hc7 w7 a1 a2 a3 a4
          have hxs : (⟨⟨#[]⟩, pr, cr, r, 0⟩ : LF).sv = .slice pr R cr := by show Value.slice pr r.length cr = _; rw [← HRL.out.1]
          have hm6 : Many w w5 (Ent.bytes (⟨⟨#[]⟩, pr, cr, r, 0⟩ : LF).sv r :: Ent.recs (.slice hp hs.length hc) hs :: _) := M6.out
          have m7 := (hm6.pushRec HR6.out.1 (by rw [hxs]; exact a1) a3 a4).swap12
          have hlv : lv7 = hs.length + 1 := by rw [a2]; simp
          subst hlv
          obtain ⟨F7, v7, hraw7, hG7⟩ := m7.first
          have hle7 := jlen_any hraw7.jrn
          have hdu7 := jdurable_any hraw7.jrn
          have hus7 := used_any hraw7.disk
          have hFS7 := M5.out.2.2
          have hlen7 : (endsOf (hs.map LF.bytes) ++ [endN (endsOf (hs.map LF.bytes)) (endsOf (hs.map LF.bytes)).length + (R + 16)]).length = hs.length + 1 := by simp [endsOf_len]
          have hfo : (fileOf 0 (hs.map LF.bytes ++ [r])).length = U + 16 + R := by rw [fileOf_snoc, List.length_append, wrap_len, payload_len, ← HU.out.1, ← HRL.out.1]; omega
          have hud : D1.used = U + 16 + R := by rw [hFS7.used, hfo]
          rw [show ({ D := D1, nm := nL, es := endsOf (hs.map LF.bytes) ++ [endN (endsOf (hs.map LF.bytes)) (endsOf (hs.map LF.bytes)).length + (R + 16)], du := 0 } : Hs).es.length = hs.length + 1 from hlen7] at hle7
          rw [show ({ D := D1, nm := nL, es := endsOf (hs.map LF.bytes) ++ [endN (endsOf (hs.map LF.bytes)) (endsOf (hs.map LF.bytes)).length + (R + 16)], du := 0 } : Hs).D.used = U + 16 + R from hud] at hus7
          simp only [show ((0 : Nat) : Int) = 0 from rfl, Int.natCast_add, show ((1 : Nat) : Int) = 1 from rfl, show ((16 : Nat) : Int) = 16 from rfl] at hle7 hdu7 hus7
          have HLE := Lib.hid hle7
          have HDU := Lib.hid hdu7
          have HUS := Lib.hid hus7
          have hends : endsOf (hs.map LF.bytes) ++ [endN (endsOf (hs.map LF.bytes)) (endsOf (hs.map LF.bytes)).length + (R + 16)] = endsOf ((hs ++ [(⟨⟨#[]⟩, pr, cr, r, 0⟩ : LF)]).map LF.bytes) := by rw [List.map_append, HRL.out.1]; exact (endsOf_snoc _ _).symm
          rw [hends] at m7
          have M7 := Lib.hid (And.intro m7 (And.intro hFS7 hfo))
          clear a1 a2 a3 a4 hm6 m7 hraw7 hG7 hle7 hdu7 hus7 hFS7 hlen7 hfo hud hends hxs
          go_wp2_with (first | (go_at_call 13; refine HLE.out.mono ?_; rintro e w' ⟨rfl, rfl⟩) | (go_at_call 14; refine HDU.out.mono ?_; rintro e w' ⟨rfl, rfl⟩) | (go_at_call 15; refine HUS.out.mono ?_; rintro e w' ⟨rfl, rfl⟩))
          go_roundw
          case rel =>
            refine ⟨hp7, hc7, hs ++ [(⟨⟨#[]⟩, pr, cr, r, 0⟩ : LF)], D1, G6, i + 1, by simp, ?_, by go_num, by omega, by have := HR.out.2.2.2.2.1; simp; omega, by omega, ?_, ?_, ?_⟩
            · rw [List.map_append]
              rw [show (List.map LF.bytes [(⟨⟨#[]⟩, pr, cr, r, 0⟩ : LF)]) = [r] from rfl, M7.out.2.2]
              go_num
            · intro y hy
              rcases List.mem_append.1 hy with hy | hy
              · exact HR.out.1 y hy
              · obtain rfl : y = _ := by simpa using hy
                exact HRL.out.2
            · rw [List.map_append]; exact M7.out.2.1
            · have := M7.out.1
              rw [List.length_append, List.length_singleton]
              exact this
          case measure => simp [Lib.intOf]; omega
        · have d3 : decide ((U : Int) + 16 + (R : Int) ≤ (most : Int)) = false := decide_eq_false hfit
          obtain ⟨m, D1, D2, ha, hmm, hc0, hc1, hFS2⟩ := HR.out.2.1.app_full (r := r) (by rw [← HU.out.1, ← HRL.out.1]; omega)
          rw [← hel] at ha
          have hja := japp_full hg5 hraw (show nL.size ≤ maxLen by decide) hle (Nat.zero_le _) hlk (OB.rb o4) hap hF2 (by have := HRL.out.2; omega) hz ha (by have := HM.out; omega) hc0 hc1
          rw [← HRL.out.1] at hja
          have HJA := Lib.hid hja
          have M5 := Lib.hid (And.intro m5 (And.intro hG hFS2))
          clear m5 hraw hG hg5 hF2 hap hel hsl hle hlk hz o4 c4 n4 ha hFS2 hja hc0 hc1 hmm
          go_wp2_with (first | (go_at_call 9; refine stop ?_))
          refine go ?_
          refine HJA.out.mono ?_
          rintro e w5 ⟨b5, rfl, hb5, hl5⟩
          obtain ⟨G6, m6⟩ := M5.out.1.housed (by rw [M5.out.2.1]; exact hl5)
          have hcd := code_any (HP.out.1.chg m6.chg) b5 nApp _ 111 hb5
          simp only [show ((111 : Nat) : Int) = 111 from rfl] at hcd
          have HCD := Lib.hid hcd
          have M6 := Lib.hid m6
          clear hl5 m6 hcd hb5
          have hfv : (faultV b5) = .iface 88 (.pointer (some ⟨b5, 0, none⟩)) := rfl
          rw [hfv] at HCD ⊢
          clear hfv
          go_wp2_with (first | (go_at_call 11; refine stop ?_))
          refine go ?_
          refine HCD.out.mono ?_
          rintro e w6 ⟨rfl, c6⟩
          have m7 := M6.out.quiet c6
          obtain ⟨F7, v7, hraw7, hG7⟩ := m7.first
          have her7 := jerr_any hraw7.jrn
          have hle7 := jlen_any hraw7.jrn
          have hdu7 := jdurable_any hraw7.jrn
          have hus7 := used_any hraw7.disk
          have hFS7 := M5.out.2.2
          have hud : D2.used = U := by rw [hFS7.used, ← HU.out.1]
          rw [show ({ D := D2, nm := nL, es := endsOf (hs.map LF.bytes), du := 0 } : Hs).es.length = hs.length by show (endsOf (hs.map LF.bytes)).length = _; rw [endsOf_len, List.length_map]] at hle7
          rw [show ({ D := D2, nm := nL, es := endsOf (hs.map LF.bytes), du := 0 } : Hs).D.used = U from hud] at hus7
          simp only [show ((0 : Nat) : Int) = 0 from rfl] at hdu7
          have HER := Lib.hid her7
          have HLE := Lib.hid hle7
          have HDU := Lib.hid hdu7
          have HUS := Lib.hid hus7
          have M7 := Lib.hid (And.intro m7.drop2b hFS7)
          clear c6 m7 hraw7 hG7 her7 hle7 hdu7 hus7 hFS7 hud
          go_wp2_with (first | (go_at_call 12; refine HER.out.mono ?_; rintro e w' ⟨rfl, rfl⟩) | (go_at_call 13; refine HLE.out.mono ?_; rintro e w' ⟨rfl, rfl⟩) | (go_at_call 14; refine HDU.out.mono ?_; rintro e w' ⟨rfl, rfl⟩) | (go_at_call 15; refine HUS.out.mono ?_; rintro e w' ⟨rfl, rfl⟩))
          go_roundw
          case rel => exact ⟨hp, hc, hs, D2, _, i + 1, rfl, by rw [HU.out.1], by go_num, by omega, by have := HR.out.2.2.2.2.1; omega, by omega, HR.out.1, M7.out.2, M7.out.1⟩
          case measure => simp [Lib.intOf]; omega
      · have d1 : decide ((i : Int) < (N : Int)) = true := decide_eq_true hil
        have d2 : decide ((i : Int) < 40) = false := decide_eq_false hi4
        have hM := HR.out.2.2.1
        obtain ⟨D2, s0, s1, hcr, hf0, hf1⟩ := HR.out.2.1.found
        obtain ⟨F3, v3, hraw3, hG3⟩ := hM.first
        have hel : (endsOf (hs.map LF.bytes)).length = hs.length := by rw [endsOf_len, List.length_map]
        have hsl : hs.length ≤ 40 := by omega
        have hsy := jsync_any (D2 := D2) hraw3 (show nL.size ≤ maxLen by decide) (by show (endsOf (hs.map LF.bytes)).length ≤ _; omega) (Nat.zero_le _) HR.out.2.1.look (fun h => s0 (by rw [List.length_map, ← hel]; exact h)) (fun h => s1 (by rw [List.length_map, ← hel]; exact h))
        have HSY := Lib.hid hsy
        have M3' := Lib.hid (And.intro hM (And.intro hG3 hel))
        have HF := Lib.hid (And.intro hcr (And.intro hf0 hf1))
        clear hM s0 s1 hcr hf0 hf1 hraw3 hG3 hel hsl hsy
        go_wp2_with (first | (go_at_call 16; refine stop ?_))
        refine go ?_
        refine HSY.out.mono ?_
        rintro e w3 ⟨rfl, hl3⟩
        obtain ⟨G4, m4⟩ := M3'.out.1.housed (by rw [M3'.out.2.1]; exact hl3)
        obtain ⟨F4, v4, hraw4, hG4⟩ := m4.first
        have hdu := jdurable_any hraw4.jrn
        rw [show ({ D := D2, nm := nL, es := endsOf (hs.map LF.bytes), du := (endsOf (hs.map LF.bytes)).length } : Hs).du = hs.length from M3'.out.2.2] at hdu
        have hcr := crash_any 0 (by decide) hraw4.disk
        rw [show ({ D := D2, nm := nL, es := endsOf (hs.map LF.bytes), du := (endsOf (hs.map LF.bytes)).length } : Hs).D = D2 from rfl, HF.out.1] at hcr
        simp only [show ((0 : Nat) : Int) = 0 from rfl] at hcr
        have HDU := Lib.hid hdu
        have HCR := Lib.hid hcr
        have M4 := Lib.hid (And.intro m4 (And.intro hG4 hraw4))
        clear hl3 m4 hraw4 hG4 hdu hcr
        go_wp2_with (first | (go_at_call 14; refine HDU.out.mono ?_; rintro e w' ⟨rfl, rfl⟩) | (go_at_call 17; refine stop ?_))
        refine go ?_
        refine HCR.out.mono ?_
        rintro e w5 ⟨rfl, hl5⟩
        obtain ⟨F5, hraw5, ev5⟩ := M4.out.2.2.left hl5
        have m5 := M4.out.1.turn (y := Ent.house d j ⟨(D2.crash 0).2, nL, endsOf (hs.map LF.bytes), (endsOf (hs.map LF.bytes)).length⟩ (F5 ++ jbl j v4)) ⟨F5, v4, hraw5, rfl⟩ (good_house _ _ _ _) (by rw [M4.out.2.1]; exact ev5)
        have hup := up_any hraw5.disk
        have HUP := Lib.hid hup
        have M5 := Lib.hid (And.intro m5 hraw5)
        clear hl5 hraw5 ev5 m5 hup
        go_wp2_with (first | (go_at_call 18; refine stop ?_))
        refine go ?_
        refine HUP.out.mono ?_
        rintro e w6 ⟨rfl, h6, v6⟩
        obtain ⟨F6, hraw6, ev6⟩ := M5.out.2.left ⟨F5, h6, v6⟩
        have m6 := M5.out.1.turn (y := Ent.house d j ⟨(D2.crash 0).2.up, nL, endsOf (hs.map LF.bytes), (endsOf (hs.map LF.bytes)).length⟩ (F6 ++ jbl j v4)) ⟨F6, v4, hraw6, rfl⟩ (good_house _ _ _ _) ev6
        obtain ⟨F7, m7⟩ := m6.unhouse
        have M7 := Lib.hid m7
        clear h6 v6 hraw6 ev6 m6 m7
        by_cases hhs : hs = []
        · have hop := open_new (nm := nL) M7.out (by decide) (HF.out.2.1 (by rw [hhs]; rfl))
          have HOP2 := Lib.hid hop
          clear hop
          subst hhs
          go_wp2_with (first | (go_at_call 7; refine stop ?_))
          refine go ?_
          refine HOP2.out.mono ?_
          rintro e w8 ⟨j2, G8, rfl, m8⟩
          have hrec : Recs w8 (.slice hp 0 hc) [] := m8.get (x := Ent.recs (.slice hp 0 hc) []) (by simp)
          have HEQ := Lib.hid (eqAll_same (w := w8) (ls := []) (ms := []) (p := none) (c := 0) (q := hp) (c' := hc) (RRows.nil w8) hrec.rows rfl (Nat.zero_le _))
          have M8 := Lib.hid m8
          clear m8 hrec
          go_wp2_with (first | (go_at_call 19; refine stop ?_))
          refine go ?_
          refine HEQ.out.mono ?_
          rintro e w9 ⟨rfl, c9⟩
          go_wp2
          go_ret
          exact ⟨rfl, M8.out.chg.trans c9 fun _ h => h.elim⟩
        · have hne : hs.map LF.bytes ≠ [] := fun e => hhs (List.map_eq_nil_iff.1 e)
          obtain ⟨f1, f2⟩ := HF.out.2.2 hne
          have hop := open_same (nm := nL) (l := hs.map LF.bytes) HP.out.1 M7.out (by decide) (fun r hr => by
            obtain ⟨x, hx, rfl⟩ := List.mem_map.1 hr
            have := HR.out.1 x hx
            omega) (by rw [← HU.out.1]; have := HU.out.2; have := HM.out; omega) f1 f2
          have HOP2 := Lib.hid hop
          clear hop f1 f2 hne hhs
          go_wp2_with (first | (go_at_call 7; refine stop ?_))
          refine go ?_
          refine HOP2.out.mono ?_
          rintro e w8 ⟨j2, G8, rv, ls2, rfl, hls2, m8⟩
          have hrec : Recs w8 (.slice hp hs.length hc) hs := m8.get (x := Ent.recs (.slice hp hs.length hc) hs) (by simp)
          have hrec2 : Recs w8 rv ls2 := m8.get (x := Ent.recs rv ls2) (by simp)
          obtain ⟨p9, c9', rfl, -⟩ := id hrec2.oc
          have hln : ls2.length = hs.length := by have := congrArg List.length hls2; simpa using this
          have heq := eqAll_same hrec2.rows hrec.rows hls2 (by omega)
          have HEQ := Lib.hid heq
          have M8 := Lib.hid m8
          clear m8 hrec hrec2 hls2 hln heq
          go_wp2_with (first | (go_at_call 19; refine stop ?_))
          refine go ?_
          refine HEQ.out.mono ?_
          rintro e w9 ⟨rfl, c9⟩
          go_wp2
          go_ret
          exact ⟨rfl, M8.out.chg.trans c9 fun _ h => h.elim⟩
    · have d1 : decide ((i : Int) < (N : Int)) = false := decide_eq_false hil
      have hM := HR.out.2.2.1
      obtain ⟨D2, s0, s1, hcr, hf0, hf1⟩ := HR.out.2.1.found
      obtain ⟨F3, v3, hraw3, hG3⟩ := hM.first
      have hel : (endsOf (hs.map LF.bytes)).length = hs.length := by rw [endsOf_len, List.length_map]
      have hsl : hs.length ≤ 40 := by omega
      have hsy := jsync_any (D2 := D2) hraw3 (show nL.size ≤ maxLen by decide) (by show (endsOf (hs.map LF.bytes)).length ≤ _; omega) (Nat.zero_le _) HR.out.2.1.look (fun h => s0 (by rw [List.length_map, ← hel]; exact h)) (fun h => s1 (by rw [List.length_map, ← hel]; exact h))
      have HSY := Lib.hid hsy
      have M3' := Lib.hid (And.intro hM (And.intro hG3 hel))
      have HF := Lib.hid (And.intro hcr (And.intro hf0 hf1))
      clear hM s0 s1 hcr hf0 hf1 hraw3 hG3 hel hsl hsy
      go_wp2_with (first | (go_at_call 16; refine stop ?_))
      refine go ?_
      refine HSY.out.mono ?_
      rintro e w3 ⟨rfl, hl3⟩
      obtain ⟨G4, m4⟩ := M3'.out.1.housed (by rw [M3'.out.2.1]; exact hl3)
      obtain ⟨F4, v4, hraw4, hG4⟩ := m4.first
      have hdu := jdurable_any hraw4.jrn
      rw [show ({ D := D2, nm := nL, es := endsOf (hs.map LF.bytes), du := (endsOf (hs.map LF.bytes)).length } : Hs).du = hs.length from M3'.out.2.2] at hdu
      have hcr := crash_any 0 (by decide) hraw4.disk
      rw [show ({ D := D2, nm := nL, es := endsOf (hs.map LF.bytes), du := (endsOf (hs.map LF.bytes)).length } : Hs).D = D2 from rfl, HF.out.1] at hcr
      simp only [show ((0 : Nat) : Int) = 0 from rfl] at hcr
      have HDU := Lib.hid hdu
      have HCR := Lib.hid hcr
      have M4 := Lib.hid (And.intro m4 (And.intro hG4 hraw4))
      clear hl3 m4 hraw4 hG4 hdu hcr
      go_wp2_with (first | (go_at_call 14; refine HDU.out.mono ?_; rintro e w' ⟨rfl, rfl⟩) | (go_at_call 17; refine stop ?_))
      refine go ?_
      refine HCR.out.mono ?_
      rintro e w5 ⟨rfl, hl5⟩
      obtain ⟨F5, hraw5, ev5⟩ := M4.out.2.2.left hl5
      have m5 := M4.out.1.turn (y := Ent.house d j ⟨(D2.crash 0).2, nL, endsOf (hs.map LF.bytes), (endsOf (hs.map LF.bytes)).length⟩ (F5 ++ jbl j v4)) ⟨F5, v4, hraw5, rfl⟩ (good_house _ _ _ _) (by rw [M4.out.2.1]; exact ev5)
      have hup := up_any hraw5.disk
      have HUP := Lib.hid hup
      have M5 := Lib.hid (And.intro m5 hraw5)
      clear hl5 hraw5 ev5 m5 hup
      go_wp2_with (first | (go_at_call 18; refine stop ?_))
      refine go ?_
      refine HUP.out.mono ?_
      rintro e w6 ⟨rfl, h6, v6⟩
      obtain ⟨F6, hraw6, ev6⟩ := M5.out.2.left ⟨F5, h6, v6⟩
      have m6 := M5.out.1.turn (y := Ent.house d j ⟨(D2.crash 0).2.up, nL, endsOf (hs.map LF.bytes), (endsOf (hs.map LF.bytes)).length⟩ (F6 ++ jbl j v4)) ⟨F6, v4, hraw6, rfl⟩ (good_house _ _ _ _) ev6
      obtain ⟨F7, m7⟩ := m6.unhouse
      have M7 := Lib.hid m7
      clear h6 v6 hraw6 ev6 m6 m7
      by_cases hhs : hs = []
      · have hop := open_new (nm := nL) M7.out (by decide) (HF.out.2.1 (by rw [hhs]; rfl))
        have HOP2 := Lib.hid hop
        clear hop
        subst hhs
        go_wp2_with (first | (go_at_call 7; refine stop ?_))
        refine go ?_
        refine HOP2.out.mono ?_
        rintro e w8 ⟨j2, G8, rfl, m8⟩
        have hrec : Recs w8 (.slice hp 0 hc) [] := m8.get (x := Ent.recs (.slice hp 0 hc) []) (by simp)
        have HEQ := Lib.hid (eqAll_same (w := w8) (ls := []) (ms := []) (p := none) (c := 0) (q := hp) (c' := hc) (RRows.nil w8) hrec.rows rfl (Nat.zero_le _))
        have M8 := Lib.hid m8
        clear m8 hrec
        go_wp2_with (first | (go_at_call 19; refine stop ?_))
        refine go ?_
        refine HEQ.out.mono ?_
        rintro e w9 ⟨rfl, c9⟩
        go_wp2
        go_ret
        exact ⟨rfl, M8.out.chg.trans c9 fun _ h => h.elim⟩
      · have hne : hs.map LF.bytes ≠ [] := fun e => hhs (List.map_eq_nil_iff.1 e)
        obtain ⟨f1, f2⟩ := HF.out.2.2 hne
        have hop := open_same (nm := nL) (l := hs.map LF.bytes) HP.out.1 M7.out (by decide) (fun r hr => by
          obtain ⟨x, hx, rfl⟩ := List.mem_map.1 hr
          have := HR.out.1 x hx
          omega) (by rw [← HU.out.1]; have := HU.out.2; have := HM.out; omega) f1 f2
        have HOP2 := Lib.hid hop
        clear hop f1 f2 hne hhs
        go_wp2_with (first | (go_at_call 7; refine stop ?_))
        refine go ?_
        refine HOP2.out.mono ?_
        rintro e w8 ⟨j2, G8, rv, ls2, rfl, hls2, m8⟩
        have hrec : Recs w8 (.slice hp hs.length hc) hs := m8.get (x := Ent.recs (.slice hp hs.length hc) hs) (by simp)
        have hrec2 : Recs w8 rv ls2 := m8.get (x := Ent.recs rv ls2) (by simp)
        obtain ⟨p9, c9', rfl, -⟩ := id hrec2.oc
        have hln : ls2.length = hs.length := by have := congrArg List.length hls2; simpa using this
        have heq := eqAll_same hrec2.rows hrec.rows hls2 (by omega)
        have HEQ := Lib.hid heq
        have M8 := Lib.hid m8
        clear m8 hrec hrec2 hls2 hln heq
        go_wp2_with (first | (go_at_call 19; refine stop ?_))
        refine go ?_
        refine HEQ.out.mono ?_
        rintro e w9 ⟨rfl, c9⟩
        go_wp2
        go_ret
        exact ⟨rfl, M8.out.chg.trans c9 fun _ h => h.elim⟩
end
end Go.Proofs
