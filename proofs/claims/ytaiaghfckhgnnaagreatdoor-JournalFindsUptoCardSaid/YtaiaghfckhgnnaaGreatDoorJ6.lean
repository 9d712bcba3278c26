/- A journal and its disk apart; a closed journal; EqFiles; fits, where what was found is a beginning of what was appended; files as they are handed to Load; a disk with records of which some bytes are durable, plainly. Conditions: each sentence's own. -/
import Derived.Test.YtaiaghfckhgnnaaGreatDoorJz
import Derived.Test.YtaiaghfckhgnnaaGreatDoorJd
import Derived.Test.YtaiaghfckhgnnaaGreatDoorJ2
import Derived.Test.YtaiaghfckhgnnaaGreatDoorT2
import Derived.Test.YtaiaghfckhgnnaaGreatDoorT4
namespace Go.Proofs
open Go.RowKit Go.Hp Go.Dm Go.Dr Go.Jn
set_option linter.unusedVariables false
set_option maxRecDepth 10000
/-- a journal without its disk, as a piece of memory -/
def Ent.jrn (j d : Nat) (v : Value) (nm : ByteArray) (es : List Nat) (du : Nat) (er : Value) : Ent := ⟨jbl j v, fun w => JAt w j d v nm es du er⟩
theorem good_jrn (j d : Nat) (v : Value) (nm : ByteArray) (es : List Nat) (du : Nat) (er : Value) : (Ent.jrn j d v nm es du er).Good := ⟨fun h hk => JAt.keep h hk, fun h k hk => JAt.lt h k hk⟩
section
variable {W w w' : World} {L : List Ent} {d j : Nat} {D : Dk} {nm : ByteArray} {es : List Nat} {du : Nat} {er v : Value} {F G : List Nat}
/-- a house is a disk and a journal -/
theorem Many.unjoin (h : Many W w (Ent.house d j ⟨D, nm, es, du, er⟩ G :: L)) : ∃ F v, Many W w (Ent.disk d D F :: Ent.jrn j d v nm es du er :: L) := by
  obtain ⟨F, v, hr, rfl⟩ := h.first
  refine ⟨F, v, h.split (y := Ent.disk d D F) (z := Ent.jrn j d v nm es du er) hr.disk hr.jrn (good_disk _ _ _) (good_jrn _ _ _ _ _ _ _) (fun k hk => ?_) fun k hk hk2 => ?_⟩
  · exact List.mem_append.2 hk
  · exact hr.off k hk2 hk
theorem Many.rejoin (h : Many W w (Ent.disk d D F :: Ent.jrn j d v nm es du er :: L)) : Many W w (Ent.house d j ⟨D, nm, es, du, er⟩ (F ++ jbl j v) :: L) := by
  have hap := (List.pairwise_cons.1 h.apart).1 (Ent.jrn j d v nm es du er) (by simp)
  exact h.join (z := Ent.house d j ⟨D, nm, es, du, er⟩ (F ++ jbl j v)) ⟨F, v, ⟨h.first, h.tail.first, fun k hk hkF => hap k hkF hk⟩, rfl⟩ (good_house _ _ _ _) fun k hk => List.mem_append.1 hk
end
section
variable {w : World} {d j : Nat} {H : Hs} {F : List Nat} {v : Value}
/-- closed by an error -/
theorem HRaw.shut (h : HRaw w d j H F v) (x : Value) : HRaw (w.setCell ⟨j, 4, none⟩ x) d j { H with er := x } F v ∧ Ev (F ++ jbl j v) (F ++ jbl j v) w (w.setCell ⟨j, 4, none⟩ x) := by
  have hjF : j ∉ F := h.off j (mem_jbl.2 (.inl rfl))
  refine ⟨⟨h.disk.keep fun k hk => hset_other (fun e => hjF ((show k = j from e) ▸ hk)), ⟨?_, OC.keep h.jrn.oc fun b hb => hset_other fun e => h.jrn.ne (by have e : b = j := e; rw [← e]; exact hb), h.jrn.ne⟩, h.off⟩, ⟨(Chg.refl _ w).setCell (p := ⟨j, 4, none⟩) (.inl (List.mem_append.2 (.inr (mem_jbl.2 (.inl rfl))))) _, fun k hk => .inl hk⟩⟩
  have := hset_same h.jrn.head 4 x
  simpa using this
end
def nSync : ByteArray := ⟨#[83, 121, 110, 99]⟩
section
variable {W w : World} {L : List Ent} {d j : Nat} {H : Hs} {G : List Nat}
set_option maxHeartbeats 8000000 in
theorem shut_many (hg : Gl W) (hm : Many W w (Ent.house d j H G :: L)) (nm : ByteArray) (at_ : Int) (e : Nat) :
    Calls Tryz.prog 56 #[.pointer (some ⟨j, 0, none⟩), .string nm, .int .i64 at_, errV e] w fun ev w' => ∃ b, ev = .returned (faultV b) ∧ Many W w' (Ent.box b (faultO nm at_ e) :: Ent.house d j { H with er := faultV b } G :: L) := by
  have HFA := Lib.hid (fault_any (hg.chg hm.chg) nm at_ e)
  have HM := Lib.hid hm
  clear hg hm
  go_enter Tryz.func56, Tryz.ntmps56
  go_wp2_with (first | (go_at_call 48; refine stop ?_))
  refine go ?_
  refine HFA.out.mono ?_
  rintro ev w1 ⟨b, rfl, hbn, hb, c1⟩
  have m1 := (HM.out.add (y := Ent.box b (faultO nm at_ e)) c1 hb (good_box _ _) (fun k hk => by
    obtain rfl : k = b := by simpa [Ent.box] using hk
    exact hbn)).swap12
  obtain ⟨F1, v1, hr1, hG1⟩ := m1.first
  have hsh := hr1.shut (faultV b)
  have z4 := hfree_of hr1.jrn.head 4
  have g0 := hcell_of (hr1.jrn).head 0
  have g1 := hcell_of (hr1.jrn).head 1
  have g2 := hcell_of (hr1.jrn).head 2
  have g3 := hcell_of (hr1.jrn).head 3
  have g4 := hcell_of (hr1.jrn).head 4
  simp only [List.getElem?_toArray, List.getElem?_cons_zero, List.getElem?_cons_succ] at g0 g1 g2 g3 g4
  have k4 := hcell_of hsh.1.jrn.head 4
  simp only [List.getElem?_toArray, List.getElem?_cons_zero, List.getElem?_cons_succ] at k4
  have m2 := m1.turn (y := Ent.house d j { H with er := faultV b } G) ⟨F1, v1, hsh.1, hG1⟩ (good_house _ _ _ _) (by rw [hG1]; exact hsh.2)
  have M2 := Lib.hid m2
  clear hbn hb c1 m1 hr1 hG1 hsh m2 g0 g1 g2 g3
  rw [show faultV b = .iface 149 (.pointer (some ⟨b, 0, none⟩)) from rfl] at k4
  rw [show faultV b = .iface 149 (.pointer (some ⟨b, 0, none⟩)) from rfl]
  go_wp2
  go_ret
  exact ⟨b, rfl, M2.out.swap12⟩
set_option maxHeartbeats 8000000 in
/-- an Append on a journal that an error has closed -/
theorem japp_closed {b0 n c : Nat} {p : Option Addr} (hg : Gl W) (hm : Many W w (Ent.house d j H G :: L)) (her : H.er = faultV b0) (hes : H.es.length ≤ 2147483647) :
    Calls Tryz.prog 19 #[.pointer (some ⟨j, 0, none⟩), .slice p n c] w fun ev w' => ∃ b, ev = .returned (faultV b) ∧ Many W w' (Ent.box b (faultO nApp (H.es.length : Int) 120) :: Ent.house d j H G :: L) := by
  have hfa := fault_any (hg.chg hm.chg) nApp (H.es.length : Int) 120
  unfold errV at hfa
  rw [show ((120 : Nat) : Int) = 120 from rfl] at hfa
  have HFA := Lib.hid hfa
  obtain ⟨F, v, hr, hG⟩ := hm.first
  have hfv : (faultV b0) = .iface 149 (.pointer (some ⟨b0, 0, none⟩)) := rfl
  have g0 := hcell_of (hr.jrn).head 0
  have g1 := hcell_of (hr.jrn).head 1
  have g2 := hcell_of (hr.jrn).head 2
  have g3 := hcell_of (hr.jrn).head 3
  have g4 := hcell_of (hr.jrn).head 4
  simp only [List.getElem?_toArray, List.getElem?_cons_zero, List.getElem?_cons_succ] at g0 g1 g2 g3 g4
  rw [her, hfv] at g4
  obtain ⟨pv, cv, hpv, -⟩ := id hr.jrn.oc
  rw [hpv] at g2
  have HM := Lib.hid hm
  have iel : (H.es.length : Int) ≤ 2147483647 := by omega
  clear hg hm her hes hfa hr hG hfv hpv g0 g1 g3
  go_enter Tryz.func19, Tryz.ntmps19
  go_wp2_with (first | (go_at_call 48; refine stop ?_))
  refine go ?_
  refine HFA.out.mono ?_
  rintro ev w1 ⟨b, rfl, hbn, hb, c1⟩
  have m1 := HM.out.add (y := Ent.box b (faultO nApp (H.es.length : Int) 120)) c1 hb (good_box _ _) (fun k hk => by
    obtain rfl : k = b := by simpa [Ent.box] using hk
    exact hbn)
  have M1 := Lib.hid m1
  clear hbn hb c1 m1
  go_wp2
  go_ret
  exact ⟨b, rfl, M1.out⟩
set_option maxHeartbeats 8000000 in
/-- a Sync on a journal that an error has closed -/
theorem jsync_closed {b0 : Nat} (hg : Gl W) (hm : Many W w (Ent.house d j H G :: L)) (her : H.er = faultV b0) (hdu : H.du ≤ 2147483647) :
    Calls Tryz.prog 23 #[.pointer (some ⟨j, 0, none⟩)] w fun ev w' => ∃ b, ev = .returned (faultV b) ∧ Many W w' (Ent.box b (faultO nSync (H.du : Int) 120) :: Ent.house d j H G :: L) := by
  have hfa := fault_any (hg.chg hm.chg) nSync (H.du : Int) 120
  unfold errV at hfa
  rw [show ((120 : Nat) : Int) = 120 from rfl] at hfa
  have HFA := Lib.hid hfa
  obtain ⟨F, v, hr, hG⟩ := hm.first
  have hfv : (faultV b0) = .iface 149 (.pointer (some ⟨b0, 0, none⟩)) := rfl
  have g0 := hcell_of (hr.jrn).head 0
  have g1 := hcell_of (hr.jrn).head 1
  have g2 := hcell_of (hr.jrn).head 2
  have g3 := hcell_of (hr.jrn).head 3
  have g4 := hcell_of (hr.jrn).head 4
  simp only [List.getElem?_toArray, List.getElem?_cons_zero, List.getElem?_cons_succ] at g0 g1 g2 g3 g4
  rw [her, hfv] at g4
  obtain ⟨pv, cv, hpv, -⟩ := id hr.jrn.oc
  rw [hpv] at g2
  have HM := Lib.hid hm
  have iel : (H.du : Int) ≤ 2147483647 := by omega
  clear hg hm her hdu hfa hr hG hfv hpv g0 g1
  go_enter Tryz.func23, Tryz.ntmps23
  go_wp2_with (first | (go_at_call 48; refine stop ?_))
  refine go ?_
  refine HFA.out.mono ?_
  rintro ev w1 ⟨b, rfl, hbn, hb, c1⟩
  have m1 := HM.out.add (y := Ent.box b (faultO nSync (H.du : Int) 120)) c1 hb (good_box _ _) (fun k hk => by
    obtain rfl : k = b := by simpa [Ent.box] using hk
    exact hbn)
  have M1 := Lib.hid m1
  clear hbn hb c1 m1
  go_wp2
  go_ret
  exact ⟨b, rfl, M1.out⟩
set_option maxHeartbeats 8000000 in
/-- an Append that finds the file changed, or the disk down: the journal is closed -/
theorem japp_shut {n c code : Nat} {p : Option Addr} (hg : Gl W) (hm : Many W w (Ent.house d j H G :: L)) (her : H.er = .nilIface) (hs : H.nm.size ≤ maxLen) (hes : H.es.length ≤ 2147483647) (hdu : H.du ≤ H.es.length) (hn : n ≤ 131068)
    (hlk : lookE H.D H.nm H.es H.du = code) (hc : code ≠ 0) :
    Calls Tryz.prog 19 #[.pointer (some ⟨j, 0, none⟩), .slice p n c] w fun ev w' => ∃ b G', ev = .returned (faultV b) ∧ Many W w' (Ent.box b (faultO nApp (H.es.length : Int) code) :: Ent.house d j { H with er := faultV b } G' :: L) := by
  obtain ⟨F, v, hr, hG⟩ := hm.first
  have hlo := look_any hr hs (by omega) hdu
  rw [hlk] at hlo
  have hgv : givenV code = errV code := by unfold givenV errV; rw [if_neg hc]
  rw [hgv] at hlo
  have HLK := Lib.hid hlo
  have g0 := hcell_of (hr.jrn).head 0
  have g1 := hcell_of (hr.jrn).head 1
  have g2 := hcell_of (hr.jrn).head 2
  have g3 := hcell_of (hr.jrn).head 3
  have g4 := hcell_of (hr.jrn).head 4
  simp only [List.getElem?_toArray, List.getElem?_cons_zero, List.getElem?_cons_succ] at g0 g1 g2 g3 g4
  rw [her] at g4
  obtain ⟨pv, cv, hpv, -⟩ := id hr.jrn.oc
  rw [hpv] at g2
  have HM := Lib.hid (And.intro hg (And.intro hm hG))
  have iel : (H.es.length : Int) ≤ 2147483647 := by omega
  have inn : (n : Int) ≤ 131068 := by omega
  clear hg hm her hs hes hdu hn hlk hc hr hG hlo hgv hpv g0 g1 g3
  go_enter Tryz.func19, Tryz.ntmps19
  go_wp2_with (first | (go_at_call 55; refine stop ?_))
  refine go ?_
  refine HLK.out.mono ?_
  rintro ev w1 ⟨rfl, F1, r1, v1⟩
  obtain ⟨G1, m1⟩ := HM.out.2.1.housed (by rw [HM.out.2.2]; exact ⟨_, ⟨F1, v, r1, rfl⟩, v1⟩)
  have hsh := shut_many HM.out.1 m1 nApp (H.es.length : Int) code
  unfold errV at hsh ⊢
  have HSH := Lib.hid hsh
  clear r1 v1 m1 hsh g2 g4
  go_wp2_with (first | (go_at_call 56; refine stop ?_))
  refine go ?_
  refine HSH.out.mono ?_
  rintro ev w2 ⟨b, rfl, m2⟩
  have M2 := Lib.hid m2
  clear m2
  go_wp2
  go_ret
  exact ⟨b, G1, rfl, M2.out⟩
end
end Go.Proofs
namespace Go.Proofs
open Go.RowKit Go.Hp Go.Dm Go.Dr
set_option linter.unusedVariables false
set_option maxRecDepth 10000
section
variable {w : World}
/-- the same files, wherever they lie -/
def SameFls (l l' : List LF) : Prop := l.map LF.fl = l'.map LF.fl

theorem SameFls.len {l l' : List LF} (h : SameFls l l') : l.length = l'.length := by
  have := congrArg List.length h
  simpa using this
theorem SameFls.at_ {l l' : List LF} (h : SameFls l l') {k : Nat} {x y : LF} (hx : l[k]? = some x) (hy : l'[k]? = some y) : x.name = y.name ∧ x.bytes = y.bytes ∧ x.sure = y.sure := by
  have h1 : (l.map LF.fl)[k]? = some x.fl := by rw [List.getElem?_map, hx]; rfl
  have h2 : (l'.map LF.fl)[k]? = some y.fl := by rw [List.getElem?_map, hy]; rfl
  have h0 : l.map LF.fl = l'.map LF.fl := h
  rw [h0, h2] at h1
  have := Option.some.inj h1
  unfold LF.fl at this
  simp only [Fl.mk.injEq] at this
  exact ⟨this.1.symm, this.2.1.symm, this.2.2.symm⟩

set_option maxHeartbeats 4000000 in
theorem eqFiles_true {v v' : Value} {l l' : List LF} (hN : l.length ≤ 1099511627776) (h : FilesAt w v l) (h' : FilesAt w v' l') (hs : SameFls l l') :
    Calls Tryz.prog 24 #[v, v'] w fun e w' => e = .returned (.bool true) ∧ ∃ n, w' = w.drewN n := by
  have hle := hs.len
  obtain ⟨p, c, rfl, hc1, hc2, -⟩ := id h.sl
  obtain ⟨p', c', rfl, hc1', hc2', -⟩ := id h'.sl
  rw [← hle] at hc1' ⊢
  have h' : FilesAt w (.slice p' l.length c') l' := by rw [hle]; exact h'
  have H := Lib.hid h
  have H' := Lib.hid h'
  have HS := Lib.hid hs
  have HLE := Lib.hid hle
  have hNi : (l.length : Int) ≤ 1099511627776 := by omega
  clear h h' hs hle hN hc2 hc2'
  go_enter Tryz.func24, Tryz.ntmps24
  go_wp2
  go_loopw [5] (fun i wr => ∃ k : Nat, i = .int .i64 (k : Int) ∧ k ≤ l.length ∧ ∃ n, wr = w.drewN n) (fun i _ => l.length - (Lib.intOf i).toNat)
  case atStart => exact ⟨0, rfl, Nat.zero_le _, 0, rfl⟩
  case round =>
    obtain ⟨k, rfl, hk, nd, rfl⟩ := hrel
    by_cases hlt : (k : Int) < l.length
    · obtain ⟨b, x, rfl, hx, hob, hcap, p0, p1, p2⟩ := H.out.file (k := k) (by omega)
      obtain ⟨b', y, rfl, hy, hob', hcap', p0', p1', p2'⟩ := H'.out.file (k := k) (by have := HLE.out; omega)
      obtain ⟨e1, e2, e3⟩ := HS.out.at_ hx hy
      rw [← e1] at p0'
      rw [← e3] at p2'
      have hsame := fun w' (hc : ∃ n, w' = w.drewN n) => leq_any (w := w') (a := x.bytes) (b := y.bytes) (p := x.p) (q := y.p) (c := x.cap) (c' := y.cap) (by obtain ⟨n, rfl⟩ := hc; exact OB.rb (OC.keep hob fun _ _ => rfl)) (by obtain ⟨n, rfl⟩ := hc; exact OB.rb (OC.keep hob' fun _ _ => rfl)) e2
      have HSAME := Lib.hid hsame
      have hk0 : (0 : Int) ≤ (k : Int) := by omega
      have hc1 : (l.length : Int) ≤ c := by omega
      have hc1' : (l.length : Int) ≤ c' := by omega
      have hsv : x.sv = .slice x.p x.bytes.length x.cap := rfl
      have hsv' : y.sv = .slice y.p y.bytes.length y.cap := rfl
      clear hx hy hob hob' e1 e2 e3 hsame hcap hcap'
      rw [hsv] at p1
      rw [hsv'] at p1'
      go_wp2
      refine Rx.wp_region_sched (fun _ => True) [(0, .r), (1, .r), (2, .r), (3, .r), (4, .r), (5, .r), (6, .r), (7, .r), (8, .r), (9, .r), (10, .r), (11, .r), (12, .r), (13, .r), (14, .r), (15, .r), (16, .r), (17, .r), (18, .r), (19, .r), (20, .r), (21, .r), (22, .r), (23, .r), (24, .r), (25, .r), (26, .r), (27, .r), (28, .r), (29, .r), (30, .r), (31, .r), (32, .r), (33, .r), (34, .r), (35, .e), (36, .r), (37, .r)] (by kernel_rfl) (by kernel_rfl) trivial (fun _ _ x _ _ h => (by cases x <;> exact h)) ?_
      iterate 35 (refine Rx.wpSched_q rfl rfl ?_; go_wp2; refine ⟨rfl, ?_⟩)
      refine Rx.wpSched_e rfl ?_
      go_wp2_with (first | (go_at_call 41; refine stop ?_))
      refine go ?_
      refine (HSAME.out _ (by first | exact ⟨_, rfl⟩ | exact ⟨nd + 1, rfl⟩)).mono ?_
      rintro e w' ⟨rfl, rfl⟩
      go_wp2
      refine ⟨trivial, ?_⟩
      iterate 2 (refine Rx.wpSched_q rfl rfl ?_; go_wp2; refine ⟨rfl, ?_⟩)
      refine Rx.wpSched_nil ?_
      go_wp2
      go_roundw
      case rel => exact ⟨k + 1, by go_num, by omega, nd + 1, rfl⟩
      case measure => simp [Lib.intOf]; omega
    · go_wp2
      go_ret
      exact ⟨rfl, nd, rfl⟩


end
end Go.Proofs
namespace Go.Proofs
open Go.RowKit Go.Hp Go.Dm Go.Dr Go.Jn
set_option linter.unusedVariables false
set_option maxRecDepth 10000
/-- all records durable: no file, or one with them -/
def Dur (rs : List (List UInt8)) (fs : List Fl) : Prop := fs = [] ∧ rs = [] ∨ fs = [⟨nL, fileOf 0 rs, (fileOf 0 rs).length⟩]
theorem open_clean {D : Dk} {rs : List (List UInt8)} (hup : D.down = false) (hf : Dur rs D.files) (hr : ∀ x ∈ rs, x.length ≤ 131068) : openR D nL = (rs, 0, 0, 0, D) ∧ (bytesOf D.files nL).length = (fileOf 0 rs).length := by
  rcases hf with ⟨h1, rfl⟩ | h1
  · have hlk : D.look nL = 112 := by
      unfold Dk.look
      rw [hup, if_neg (by simp), if_pos okL, h1]
      rfl
    have hs : (D.size nL).2.2 = 112 := by unfold Dk.size; rw [if_neg (by rw [hlk]; decide)]; exact hlk
    refine ⟨?_, by rw [h1]; rfl⟩
    unfold openR
    rw [if_pos hs]
  · have hlk : D.look nL = 0 := by
      unfold Dk.look
      rw [hup, if_neg (by simp), if_pos okL, h1]
      simp [Dm.get]
    have e1 : lenOf D.files nL = (fileOf 0 rs).length := by rw [h1]; simp [lenOf, Dm.get]
    have e2 : sureOf D.files nL = (fileOf 0 rs).length := by rw [h1]; simp [sureOf, Dm.get]
    have e3 : bytesOf D.files nL = fileOf 0 rs := by rw [h1]; simp [bytesOf, Dm.get]
    have hs : D.size nL = ((fileOf 0 rs).length, (fileOf 0 rs).length, 0) := by unfold Dk.size; rw [if_pos hlk, e1, e2]
    refine ⟨?_, by rw [e3]⟩
    unfold openR
    rw [hs, if_neg (by simp), if_neg (by simp), e3, parse_file hr]
    simp
def flFi1 (f : Fl) : FI := ⟨f.name, f.bytes, (f.sure : Int)⟩
theorem load_dur {rs : List (List UInt8)} {fs : List Fl} (hf : Dur rs fs) (hz : (fileOf 0 rs).length ≤ 1048576) : ldAll ((1048576 : Nat) : Int) (fs.map flFi1) = (0, fs) ∧ sortL fs = fs := by
  rcases hf with ⟨rfl, rfl⟩ | rfl
  · refine ⟨?_, rfl⟩
    exact ldAll_ok (n := 1048576) (by decide) rfl (by simp [total])
  · exact ⟨one_load hz, rfl⟩
def LF.li1 (x : LF) : LI := ⟨x.name, x.p, x.cap, x.bytes, (x.sure : Int)⟩
theorem files_given {w : World} {v : Value} {l : List LF} {rs : List (List UInt8)} {fs : List Fl} (h : FilesAt w v l) (hl : l.map LF.fl = fs) (hf : Dur rs fs) (hz : (fileOf 0 rs).length ≤ 1048576) : IFiles w v (l.map LF.li1) ∧ (l.map LF.li1).map LI.fi = fs.map flFi1 := by
  have hall : ∀ x ∈ l, x.name = nL ∧ x.bytes.length ≤ 1048576 ∧ x.sure ≤ 1048576 := fun x hx => by
    have h1 : x.fl ∈ fs := by rw [← hl]; exact List.mem_map_of_mem hx
    rcases hf with ⟨rfl, -⟩ | rfl
    · cases h1
    · have h2 : x.fl = ⟨nL, fileOf 0 rs, (fileOf 0 rs).length⟩ := by simpa using h1
      unfold LF.fl at h2
      simp only [Fl.mk.injEq] at h2
      exact ⟨h2.1, by rw [h2.2.1]; exact hz, by rw [h2.2.2]; exact hz⟩
  have hlen : l.length ≤ 1 := by
    have h0 : l.length = fs.length := by rw [← hl, List.length_map]
    rw [h0]
    rcases hf with ⟨rfl, -⟩ | rfl
    · exact Nat.zero_le _
    · exact Nat.le_refl _
  have hfi : (l.map LF.li1).map LI.fi = fs.map flFi1 := by rw [← hl, List.map_map, List.map_map]; rfl
  refine ⟨⟨?_, fun y hy => ?_, by simp; omega, ?_⟩, hfi⟩
  · rw [List.length_map, List.flatMap_map]
    exact h.sl.rc
  · obtain ⟨x, hx, rfl⟩ := List.mem_map.1 hy
    obtain ⟨h1, h2, h3⟩ := hall x hx
    have ho := h.each x hx
    obtain ⟨p, c, e, hle, -⟩ := id ho
    obtain ⟨-, rfl⟩ : x.p = p ∧ x.cap = c := by simpa [LF.sv] using e
    refine ⟨⟨?_, by show x.bytes.length ≤ _; omega, hle, ?_, ?_⟩, ho.rb⟩
    · show x.name.size ≤ maxLen
      rw [h1]; decide
    · show -9223372036854775808 ≤ (x.sure : Int); omega
    · show (x.sure : Int) ≤ 9223372036854775807; omega
  · have e1 : (l.map LF.li1).map (fun x => x.fi.fl) = fs := by
      rw [← hl, List.map_map]
      exact List.map_congr_left fun x _ => by simp [LF.li1, LI.fi, FI.fl, LF.fl]
    rw [e1]
    rcases hf with ⟨rfl, -⟩ | rfl
    · simp [total]
    · simp [total]; omega
section
variable {w : World} {hb d j su : Nat} {hp p : Option Addr} {hc c : Nat} {lv : Value} {kp : Int} {hs ls : List LF}
set_option maxHeartbeats 8000000 in
/-- fits: a beginning -/
theorem fits_pre (hbx : w.heap[hb]? = some (houseO d j (.slice hp hs.length hc) su lv kp)) (hh : RRows w (.slice hp hs.length hc) hs) (hl : RRows w (.slice p ls.length c) ls) (hn : hs.length ≤ 1048576) (hsu : su ≤ ls.length)
    (hle : ls.length ≤ hs.length) (he : ls.map LF.bytes = (hs.map LF.bytes).take ls.length) :
    Calls Tryz.prog 61 #[.pointer (some ⟨hb, 0, none⟩), .slice p ls.length c] w fun e w' => e = .returned (.bool true) ∧ Chg (fun _ => False) w w' := by
  unfold houseO at hbx
  have q2 := hcell_of hbx 2
  have q3 := hcell_of hbx 3
  simp only [List.getElem?_toArray, List.getElem?_cons_zero, List.getElem?_cons_succ] at q2 q3
  have hka : (hs.take ls.length).length = ls.length := by rw [List.length_take]; omega
  have hrr : RRows w (.slice hp (hs.take ls.length).length hc) (hs.take ls.length) := by rw [hka]; exact hh.pre hle
  have heq := eqAll_same hl hrr (by rw [he, List.map_take]) (by omega)
  rw [hka] at heq
  have HEQ := Lib.hid heq
  obtain ⟨_, _, e0, hcr, -⟩ := hh.rc
  simp only [Value.slice.injEq] at e0
  obtain ⟨-, -, rfl⟩ := e0
  obtain ⟨m, hm⟩ : ∃ m, m = ls.length := ⟨_, rfl⟩
  obtain ⟨n, hn2⟩ : ∃ n, n = hs.length := ⟨_, rfl⟩
  rw [← hm] at HEQ ⊢
  rw [← hn2] at q2
  have i1 : (m : Int) ≤ (n : Int) := by omega
  have i2 : (n : Int) ≤ (hc : Int) := by omega
  have i3 : (su : Int) ≤ (m : Int) := by omega
  have d1 : decide ((m : Int) < (su : Int)) = false := decide_eq_false (by omega)
  have d1n : decide (m < su) = false := decide_eq_false (by omega)
  have d2 : decide ((m : Int) ≤ (n : Int)) = true := decide_eq_true (by omega)
  have d2n : decide (m ≤ n) = true := decide_eq_true (by omega)
  have i4 : (n : Int) ≤ 1048576 := by omega
  clear hbx hh hl hn hsu hle he hka hrr heq hcr hm hn2
  go_enter Tryz.func61, Tryz.ntmps61
  go_wp2_with (first | (go_at_call 12; refine stop ?_))
  refine go ?_
  refine HEQ.out.mono ?_
  rintro e w1 ⟨rfl, c1⟩
  have C1 := Lib.hid c1
  clear c1
  go_wp2
  go_ret
  exact ⟨rfl, C1.out⟩
end
end Go.Proofs
namespace Go.Proofs
open Go.Dm Go.Jn
set_option linter.unusedVariables false
set_option linter.unusedSimpArgs false
structure FG (D : Dk) (hv : List (List UInt8)) (s : Nat) : Prop where
  lim : D.limit = 1048576
  up : D.down = false
  st : D.steps = 0
  fl : D.files = [] ∧ hv = [] ∧ s = 0 ∨ D.files = [⟨nL, fileOf 0 hv, s⟩]
  sl : s ≤ (fileOf 0 hv).length
  fit : (fileOf 0 hv).length ≤ 1048576
section
variable {D : Dk} {hv : List (List UInt8)} {r : List UInt8} {s : Nat}
theorem FG.start : FG ⟨1048576, [], false, 0, 0⟩ [] 0 := ⟨rfl, rfl, rfl, .inl ⟨rfl, rfl, rfl⟩, Nat.zero_le _, Nat.zero_le _⟩
theorem FG.used (h : FG D hv s) : D.used = (fileOf 0 hv).length := by
  unfold Dk.used
  rcases h.fl with ⟨h1, h2, -⟩ | h1
  · rw [h1, h2]; rfl
  · rw [h1]; simp [total]
theorem FG.lk (h : FG D hv s) : D.look nL = if D.files = [] then 112 else 0 := by
  unfold Dk.look
  rw [h.up, if_neg (by simp), if_pos okL]
  rcases h.fl with ⟨h1, -⟩ | h1
  · rw [h1]; rfl
  · rw [h1]; simp [Dm.get, beqL]
theorem FG.size (h : FG D hv s) (h1 : D.files = [⟨nL, fileOf 0 hv, s⟩]) : D.size nL = ((fileOf 0 hv).length, s, 0) := by
  have hk := h.lk
  rw [if_neg (by rw [h1]; simp)] at hk
  unfold Dk.size
  rw [if_pos hk, h1]
  simp [lenOf, sureOf, Dm.get, beqL]
theorem FG.look (h : FG D hv s) : lookE D nL (endsOf hv) 0 = 0 := by
  unfold lookE
  rw [endsOf_end]
  rcases h.fl with ⟨h1, h2, -⟩ | h1
  · have hk := h.lk
    rw [if_pos h1] at hk
    unfold Dk.size
    rw [hk, h2]
    simp [fileOf]
  · rw [h.size h1]
    simp [endN]
theorem FG.closed (h : FG D hv s) {l : List (List UInt8)} (hne : (fileOf 0 l).length < (fileOf 0 hv).length) (du : Nat) : lookE D nL (endsOf l) du = 120 := by
  unfold lookE
  rw [endsOf_end]
  rcases h.fl with ⟨h1, h2, -⟩ | h1
  · rw [h2] at hne; simp [fileOf] at hne
  · rw [h.size h1, if_neg (by simp), if_neg (by simp), if_pos (.inl (by simp; omega))]
theorem FG.put (h : FG D hv s) (b : List UInt8) : putB nL b D.files = [⟨nL, fileOf 0 hv ++ b, s⟩] := by
  rcases h.fl with ⟨h1, h2, h3⟩ | h1
  · rw [h1, h2, h3]; simp [putB, Dm.get, ins, fileOf]
  · rw [h1]; simp [putB, Dm.get, beqL, upd]
theorem FG.app_ok (h : FG D hv s) (hf : (fileOf 0 hv).length + (r.length + 16) ≤ 1048576) :
    ∃ D1, D.append nL (jwrap (jpay hv.length r)) = ((r.length + 16, 0), D1) ∧ FG D1 (hv ++ [r]) s := by
  have hl : (jwrap (jpay hv.length r)).length = r.length + 16 := by rw [wrap_len, payload_len]
  have ha : D.append nL (jwrap (jpay hv.length r)) = ((r.length + 16, 0), { D with files := [⟨nL, fileOf 0 hv ++ jwrap (jpay hv.length r), s⟩] }) := by
    have hk := h.lk
    unfold Dk.append
    rw [hk, if_pos (by by_cases hd : D.files = [] <;> simp [hd])]
    simp only [h.used, h.lim, h.put, hl]
    rw [Nat.min_eq_left (by omega), List.take_of_length_le (by omega)]
    obtain ⟨lim, files, down, steps, keep⟩ := D
    obtain rfl : steps = 0 := h.st
    simp [Dk.fires, Dk.tick]
  refine ⟨_, ha, ⟨h.lim, h.up, h.st, .inr ?_, ?_, ?_⟩⟩
  · rw [fileOf_snoc]
  · rw [fileOf_snoc, List.length_append]; have := h.sl; omega
  · rw [fileOf_snoc, List.length_append, hl]; omega
theorem FG.opened (h : FG D hv s) (hr : ∀ x ∈ hv, x.length ≤ 131068) : ∃ D2, openR D nL = (hv, 0, 0, 0, D2) ∧ FG D2 hv (fileOf 0 hv).length ∧ (bytesOf D.files nL).length = (fileOf 0 hv).length := by
  rcases h.fl with ⟨h1, h2, h3⟩ | h1
  · have hk := h.lk
    rw [if_pos h1] at hk
    have hs : (D.size nL).2.2 = 112 := by unfold Dk.size; rw [if_neg (by rw [hk]; decide)]; exact hk
    refine ⟨D, ?_, ⟨h.lim, h.up, h.st, .inl ⟨h1, h2, by rw [h2]; rfl⟩, Nat.le_refl _, h.fit⟩, by rw [h1, h2]; rfl⟩
    unfold openR
    rw [if_pos hs, h2]
  · have hsz := h.size h1
    have hk := h.lk
    rw [if_neg (by rw [h1]; simp)] at hk
    have e3 : bytesOf D.files nL = fileOf 0 hv := by rw [h1]; simp [bytesOf, Dm.get, beqL]
    by_cases hs : s < (fileOf 0 hv).length
    · refine ⟨{ D with files := [⟨nL, fileOf 0 hv, (fileOf 0 hv).length⟩] }, ?_, ⟨h.lim, h.up, h.st, .inr rfl, Nat.le_refl _, h.fit⟩, by rw [e3]⟩
      have hsy : D.sync nL = (0, { D with files := [⟨nL, fileOf 0 hv, (fileOf 0 hv).length⟩] }) := by
        unfold Dk.sync Dk.change
        rw [if_pos hk]
        have hfi : D.fires = false := by unfold Dk.fires; simp [h.st]
        rw [hfi]
        simp [Dk.tick, h.st, h1, upd]
      unfold openR
      rw [hsz, if_neg (by simp), if_neg (by simp), e3, parse_file hr]
      simp only [Nat.lt_irrefl, if_false, ne_eq, not_true_eq_false, if_pos hs, hsy, Nat.sub_self]
    · have hse : s = (fileOf 0 hv).length := by have := h.sl; omega
      refine ⟨D, ?_, ⟨h.lim, h.up, h.st, .inr (by rw [h1, hse]), Nat.le_refl _, h.fit⟩, by rw [e3]⟩
      unfold openR
      rw [hsz, if_neg (by simp), if_neg (by simp), e3, parse_file hr]
      simp [hse]
theorem FG.dur (h : FG D hv (fileOf 0 hv).length) : Dur hv D.files := by
  rcases h.fl with ⟨h1, h2, -⟩ | h1
  · exact .inl ⟨h1, h2⟩
  · exact .inr h1
end
end Go.Proofs
