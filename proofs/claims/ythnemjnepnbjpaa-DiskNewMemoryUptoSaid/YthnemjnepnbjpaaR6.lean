/- The document's disk: did (a deed done), falls, change. Conditions: the disk lies as RRep says; at most 2^40 files. -/
import Derived.Test.YthnemjnepnbjpaaR5
namespace Go.Proofs
open Go.RowKit Go.Hp Go.Dm Go.Dr
set_option linter.unusedVariables false
set_option maxRecDepth 10000

section
variable {w w' : World} {r : Nat} {D D' : Dk} {K K' L : Int} {v : Value} {l : List RF} {G : List Nat} {nm : ByteArray}

theorem sblk_len (p : Option Addr) (n n' c : Nat) : sblk (.slice p n c) = sblk (.slice p n' c) := by
  cases p with
  | none => simp [sblk]
  | some a => cases c <;> rfl

theorem rstore_anyL (f : RF) (th : Bool) (hN : D.files.length ≤ 1099511627776) (h : RRepL w r L D G) (hb : th = true → RB w f.sv f.bytes) (hfr : th = true → sblk f.sv ≠ some r) (hok : ({ D with files := storeL f.fl th D.files } : Dk).Ok) :
    Calls Try.prog 90 #[.pointer (some ⟨r, 0, none⟩), .agg #[.string f.name, .bool th, .slice f.p f.bytes.length f.cap, .int .i64 (f.sure : Int)]] w fun e w' => e = .returned (.tuple #[]) ∧ StoredL w r L { D with files := storeL f.fl th D.files } G f w' := by
  cases th with
  | true => exact rstore_there f hN h (hb rfl) (hfr rfl) hok
  | false => exact rstore_gone f hN h hok

theorem rstore_any (f : RF) (th : Bool) (hN : D.files.length ≤ 1099511627776) (h : RRep w r D G) (hb : th = true → RB w f.sv f.bytes) (hfr : th = true → sblk f.sv ≠ some r) (hok : ({ D with files := storeL f.fl th D.files } : Dk).Ok) :
    Calls Try.prog 90 #[.pointer (some ⟨r, 0, none⟩), .agg #[.string f.name, .bool th, .slice f.p f.bytes.length f.cap, .int .i64 (f.sure : Int)]] w fun e w' => e = .returned (.tuple #[]) ∧ Stored w r { D with files := storeL f.fl th D.files } G f w' :=
  rstore_anyL (L := (D.limit : Int)) f th hN h hb hfr hok
/-- what a call on the document's disk leaves -/
def RLeft (w : World) (r : Nat) (G : List Nat) (D' : Dk) (w' : World) : Prop := ∃ G', RRep w' r D' G' ∧ Ev G G' w w'

/-- a deed as a value -/
def deedV (k : Int) (nm : ByteArray) (p : Option Addr) (n c : Nat) (q : Int) (m : Int) : Value := .agg #[.int .i64 k, .string nm, .slice p n c, .int .i64 q, .int .u8 m]

theorem cur_ok (h : D.Ok) (q i : Nat) : ({ D with files := crashCur q D.files i } : Dk).Ok :=
  { h with
    sorted := cur_sorted h.sorted q i
    sure := cur_sure h.sure q i
    used := Nat.le_trans (cur_total q D.files i) h.used }

/-- ahead of a round: i files are crashed -/
structure CRel (w wr : World) (r : Nat) (D : Dk) (G : List Nat) (q i : Nat) (bx : Array Value) : Prop where
  rep : ∃ Gi, RRep wr r { D with files := crashCur q D.files i } Gi ∧ ∀ k ∈ Gi, k ∈ G ∨ w.heap.size < k
  chg : Chg (· = r) w wr
  box : wr.heap[w.heap.size]? = some (.cells bx 140 (0, 0))

theorem crel_step {wr w3 w4 : World} {pl : Value} {x : RF} {bs : List UInt8} {q i : Nat} {bx : Array Value} {Gi Gn : List Nat} {th : Bool} (h : RRaw w r L D K pl l) (hR : CRel w wr r D (r :: lrblk pl l) q i bx) (hx : x ∈ l) (g1 : Chg (fun _ => False) wr w3)
    (hGi : ∀ k ∈ Gi, k ∈ r :: lrblk pl l ∨ w.heap.size < k) (hst : storeL ⟨x.name, bs, bs.length⟩ th (crashCur q D.files i) = crashCur q D.files (i + 1))
    (hrep : RRep w4 r { D with files := storeL (⟨x.name, x.p, x.cap, bs, bs.length⟩ : RF).fl th (crashCur q D.files i) } Gn) (hc : Chg (· = r) w3 w4)
    (hGn : ∀ k ∈ Gn, k ∈ Gi ∨ w3.heap.size ≤ k ∨ sblk (⟨x.name, x.p, x.cap, bs, bs.length⟩ : RF).sv = some k) : CRel w w4 r D (r :: lrblk pl l) q (i + 1) bx := by
  have hs := hlt_of hR.box
  have hr := hlt_of h.head
  have hz := g1.size
  refine ⟨⟨Gn, ?_, fun k hk => ?_⟩, ?_, ?_⟩
  · rw [← hst]; exact hrep
  · rcases hGn k hk with h1 | h1 | h1
    · exact hGi k h1
    · exact .inr (by omega)
    · exact .inl (List.mem_cons.2 (.inr (mem_lrblk2 hx ((sblk_len _ _ _ _).trans h1))))
  · exact (hR.chg.trans g1 fun _ h => h.elim).trans hc fun k hk => .inl hk
  · rw [hc.block _ (by omega) (by omega), g1.block _ hs (fun h => h)]
    exact hR.box

set_option maxHeartbeats 8000000 in
theorem rdid_crash (nm : ByteArray) (p : Option Addr) (n c q : Nat) (m : Int) (hq : (q : Int) ≤ 9223372036854775807) (hN : D.files.length ≤ 1099511627776) (h : RRep w r D G) :
    Calls Try.prog 94 #[.pointer (some ⟨r, 0, none⟩), deedV 6 nm p n c q m] w fun e w' => e = .returned (.tuple #[]) ∧ RLeft w r G { D with files := loseL q D.files } w' := by
  obtain ⟨K, v, l, h, rfl⟩ := h
  have hll : l.length = D.files.length := by have := congrArg List.length h.files; simpa using this
  have hlli : (l.length : Int) ≤ 1099511627776 := by omega
  obtain ⟨pl, cl, rfl, hnc, -, -⟩ := id h.sl
  have hnci : (l.length : Int) ≤ cl := by omega
  have H := Lib.hid h
  have HN := Lib.hid hN
  have HLL := Lib.hid hll
  have HQ := Lib.hid hq
  obtain ⟨c0, c1, c2, c3, c4, fz⟩ := (h.keepW (w' := w.alloc (.cells #[.int .i64 6, .string nm, .slice p n c, .int .i64 (q : Int), .int .u8 m] 140)) fun k hk => halloc_lt (h.lt k hk)).cells
  unfold deedV
  clear h hN hll hnc c0 c2 c3 c4 fz hq
  go_enter Try.func94, Try.ntmps94
  go_wp2
  go_loopw [5] (fun t5 wr => ∃ i : Nat, t5 = .int .i64 (i : Int) ∧ i ≤ l.length ∧ CRel w wr r D (r :: lrblk (.slice pl l.length cl) l) q i #[.int .i64 6, .string nm, .slice p n c, .int .i64 (q : Int), .int .u8 m]) (fun t5 _ => l.length - (Lib.intOf t5).toNat)
  case atStart =>
    refine ⟨0, rfl, Nat.zero_le _, ⟨r :: lrblk (.slice pl l.length cl) l, ?_, fun k hk => .inl hk⟩, (Chg.refl _ w).alloc _, halloc_at w _⟩
    rw [cur_zero]
    exact ⟨K, _, l, H.out.keepW fun k hk => halloc_lt (H.out.lt k hk), rfl⟩
  case round =>
    obtain ⟨i, rfl, hi, hrel⟩ := hrel
    have HR := Lib.hid hrel
    clear hrel
    by_cases hil : (i : Int) < l.length
    · obtain ⟨b, off, x, rfl, -, -, hx, z0, z1, z2, z3⟩ := RRaw.file (RC.chg H.out.sl HR.out.chg fun b hb => fun e => H.out.off (e ▸ mem_lrblk hb)) (k := i) (by omega)
      have hi0 : (0 : Int) ≤ (i : Int) := by omega
      have e2 : x.sv = .slice x.p x.bytes.length x.cap := rfl
      rw [e2] at z2
      have kc3 := hcell_of HR.out.box 3
      simp only [List.getElem?_toArray, List.getElem?_cons_zero, List.getElem?_cons_succ] at kc3
      have hxl := List.mem_of_getElem? hx
      have hfx : x.fl ∈ D.files := by rw [← H.out.files]; exact List.mem_map_of_mem hxl
      have hsx : x.sure ≤ x.bytes.length := H.out.ok.sure x.fl hfx
      have hbx : x.bytes.length ≤ 1099511627776 := by
        have h1 := get_le (get_of_mem H.out.ok.sorted.nodup hfx)
        have h1 : x.bytes.length ≤ total D.files := h1
        have h2 := H.out.ok.used
        have h3 := H.out.ok.limit
        have h4 : D.used = total D.files := rfl
        omega
      have hxr : ∀ k, sblk x.sv = some k → k ≠ r := fun k hk e => H.out.off (e ▸ mem_lrblk2 hxl hk)
      have hrb : RB wr x.sv x.bytes := RC.chg (H.out.each x hxl) HR.out.chg fun k hk e => hxr k hk e
      have hsv := fun W (hW : Chg (fun _ => False) wr W) => rsurv_any (w := W) (f := x.fl) (p := x.p) (c := x.cap) q hsx hbx HQ.out (RC.chg hrb hW fun _ _ h => h)
      have hget : D.files[i]? = some x.fl := by rw [← H.out.files, List.getElem?_map, hx]; rfl
      have hstep := crash_step H.out.ok.sorted (k := q) hget
      obtain ⟨bs, hbs⟩ : ∃ bs, x.bytes.take (x.sure + q) = bs := ⟨_, rfl⟩
      have hsf : survF q x.fl = ⟨x.name, bs, bs.length⟩ := by
        unfold survF
        rw [show x.fl.bytes.take (x.fl.sure + q) = bs from hbs]
        rfl
      rw [hsf] at hsv hstep
      unfold fileV at hsv
      simp only [RF.fl] at hsv
      have hbl : bs.length ≤ x.bytes.length := by rw [← hbs]; simp; omega
      have hbt : x.bytes.take bs.length = bs := by rw [← hbs, List.length_take, ← List.take_take, List.take_length]
      have HSV := Lib.hid hsv
      have HSTEP := Lib.hid hstep
      have HRB := Lib.hid hrb
      have HXR := Lib.hid hxr
      have HBT := Lib.hid hbt
      have HBL := Lib.hid hbl
      have HXL := Lib.hid hxl
      clear hsv hstep hrb hxr hbt hbl hxl hget hfx hsx hbx hx e2 hsf hbs
      go_wp2
      refine Rx.wp_region_sched (fun _ => True) [(1, .r), (2, .r), (3, .r), (4, .r), (5, .r), (6, .r), (0, .h), (7, .e), (8, .e)] (by kernel_rfl) (by kernel_rfl) trivial (fun _ _ x _ _ h => (by cases x <;> exact h)) ?_
      iterate 6 (refine Rx.wpSched_q rfl rfl ?_; go_wp2; refine ⟨rfl, ?_⟩)
      (refine Rx.wpSched_h (v := ?_) rfl rfl ?_ ?_; rotate_left; (intro w' hS'; go_simp; try with_reducible rfl))
      refine Rx.wpSched_e rfl ?_
      go_wp2_with (first | (go_at_call 103; refine stop ?_))
      refine go ?_
      refine (HSV.out _ (by first | exact (Chg.refl (fun _ => False) _).drew | exact Chg.refl _ _)).mono ?_
      rintro e w3 ⟨rfl, g1⟩
      have g1 : Chg (fun _ => False) wr w3 := (by first | exact ((Chg.refl (fun _ => False) wr).drew).trans g1 (fun k hk => hk.elim) | exact g1)
      obtain ⟨Gi, hrep, hGi⟩ := HR.out.rep
      have hst := rstore_any (w := w3) ⟨x.name, x.p, x.cap, bs, bs.length⟩ (decide (0 < bs.length)) (Nat.le_trans (cur_len q D.files i) HN.out) (hrep.chg g1 fun _ _ h => h)
        (fun _ => by have := RB.takeP (RC.chg HRB.out g1 fun _ _ h => h) bs.length HBL.out; rw [HBT.out] at this; exact this)
        (fun _ e => HXR.out r ((sblk_len _ _ _ _).trans e) rfl) (by
          show ({ D with files := storeL ⟨x.name, bs, bs.length⟩ (decide (0 < bs.length)) (crashCur q D.files i) } : Dk).Ok
          rw [HSTEP.out]; exact cur_ok H.out.ok q (i + 1))
      have HST := Lib.hid hst
      have G1 := Lib.hid g1
      have HGI := Lib.hid hGi
      clear hst g1 hrep hGi
      go_wp2
      refine ⟨trivial, ?_⟩
      refine Rx.wpSched_e rfl ?_
      go_wp2_with (first | (go_at_call 90; refine stop ?_))
      refine go ?_
      refine HST.out.mono ?_
      rintro e w4 ⟨rfl, Gn, hrep, hc4, hGn⟩
      have hend := crel_step H.out HR.out HXL.out G1.out HGI.out HSTEP.out hrep hc4 hGn
      have HEND := Lib.hid hend
      clear hend hrep hc4 hGn
      go_wp2
      refine ⟨trivial, ?_⟩
      refine Rx.wpSched_nil ?_
      go_wp2
      go_roundw
      case rel => exact ⟨i + 1, by go_num, by omega, HEND.out⟩
      case measure => simp [Lib.intOf]; omega
    · have hid : D.files.length ≤ i := by have := HLL.out; omega
      obtain ⟨Gi, hrep, hGi⟩ := HR.out.rep
      rw [cur_all q D.files hid] at hrep
      have HREP := Lib.hid hrep
      have HGI := Lib.hid hGi
      clear hrep hGi hid
      go_wp2
      refine bodyPost_ret (results_none rfl _ _ _) rfl ?_
      exact ⟨rfl, Gi, HREP.out, HR.out.chg.mono (fun k hk => .inl (by subst hk; simp)), fun k hk => (HGI.out k hk).imp id Nat.le_of_lt⟩
end
end Go.Proofs
