/- Pieces of memory of the journal's laws: a record put behind others, a house and its disk. -/
import Derived.Test.YtaiaghfckhgnnaaGreatDoorJl
namespace Go.Proofs
open Go.RowKit Go.Hp Go.Dm Go.Dr Go.Jn
set_option linter.unusedVariables false
set_option maxRecDepth 10000
section
variable {W w w1 w2 : World} {L : List Ent}
/-- bytes put behind the records -/
theorem Many.pushRec {v v' : Value} {ls : List LF} {x : LF} (h : Many W w (Ent.bytes x.sv x.bytes :: Ent.recs v ls :: L)) (hc : Chg (fun _ => False) w w1)
    (ho : OC w2 1 23 v' (ls.map LF.sv ++ [x.sv]).length (ls.map LF.sv ++ [x.sv])) (h2 : Chg (fun b => sblk v = some b) w1 w2) (hb : ∀ b, sblk v' = some b → sblk v = some b ∨ w1.heap.size ≤ b) : Many W w2 (Ent.recs v' (ls ++ [x]) :: L) := by
  have h1 := h.quiet hc
  have hx : OB w1 5 x.sv x.bytes := h1.first
  have hr : Recs w1 v ls := h1.tail.first
  have hap := (List.pairwise_cons.1 h1.apart).1 (Ent.recs v ls) (by simp)
  have hxv : ∀ k, sblk x.sv = some k → sblk v ≠ some k := fun k hk e => hap k (by simp [Ent.bytes, hk]) (by simp [Ent.recs, rblks, e])
  have hold : ∀ y ∈ ls ++ [x], ∀ k, sblk y.sv = some k → k < w1.heap.size ∧ sblk v ≠ some k := fun y hy k hk => by
    rcases List.mem_append.1 hy with hy | hy
    · exact ⟨OC.lt (hr.each y hy) hk, hr.off y hy k hk⟩
    · obtain rfl : y = x := by simpa using hy
      exact ⟨OC.lt hx hk, hxv k hk⟩
  have hrec : Recs w2 v' (ls ++ [x]) := by
    refine ⟨?_, fun y hy => ?_, fun y hy k hk e => ?_⟩
    · rw [List.length_append, List.map_append]
      rw [List.length_append, List.length_map] at ho
      exact ho
    · have h0 : OB w1 5 y.sv y.bytes := by
        rcases List.mem_append.1 hy with hy | hy
        · exact hr.each y hy
        · obtain rfl : y = x := by simpa using hy
          exact hx
      exact OC.chg h0 h2 fun k hk e => (hold y hy k hk).2 e
    · obtain ⟨h3, h4⟩ := hold y hy k hk
      rcases hb k e with h5 | h5
      · exact h4 h5
      · omega
  let z : Ent := ⟨(sblk x.sv).toList ++ rblks v ls, fun w => OB w 5 x.sv x.bytes ∧ Recs w v ls⟩
  have gz : z.Good := ⟨fun h hk => ⟨OC.keep h.1 fun b hb => hk b (by simp [z, hb]), h.2.keep fun k hk' => hk k (List.mem_append.2 (.inr hk'))⟩,
    fun h k hk => (List.mem_append.1 hk).elim (fun hk => OC.lt h.1 (by simpa using hk)) (fun hk => h.2.lt k hk)⟩
  refine (h1.join (z := z) ⟨hx, hr⟩ gz fun k hk => List.mem_append.1 hk).turn (y := Ent.recs v' (ls ++ [x])) hrec (good_recs _ _) ⟨h2.mono fun k hk => .inl (List.mem_append.2 (.inr (by simp [rblks, hk]))), fun k hk => ?_⟩
  rcases List.mem_append.1 hk with hk | hk
  · rcases hb k (by simpa using hk) with h5 | h5
    · exact .inl (List.mem_append.2 (.inr (by simp [rblks, h5])))
    · exact .inr h5
  · rw [List.flatMap_append] at hk
    rcases List.mem_append.1 hk with hk | hk
    · exact .inl (List.mem_append.2 (.inr (List.mem_append.2 (.inr hk))))
    · exact .inl (List.mem_append.2 (.inl (by simpa [LF.blk] using hk)))
theorem Many.drop2b {x y z : Ent} (h : Many W w (x :: y :: z :: L)) : Many W w (x :: z :: L) := (h.swap12.tail)
/-- a house's disk alone -/
theorem Many.unhouse {d j : Nat} {H : Hs} {G : List Nat} (h : Many W w (Ent.house d j H G :: L)) : ∃ F, Many W w (Ent.disk d H.D F :: L) := by
  obtain ⟨F, v, hr, rfl⟩ := h.first
  exact ⟨F, h.turn (y := Ent.disk d H.D F) hr.disk (good_disk _ _ _) ⟨Chg.refl _ _, fun k hk => .inl (List.mem_append.2 (.inl hk))⟩⟩
/-- a call on the disk of a house -/
theorem Many.houseDisk {d j : Nat} {H : Hs} {G : List Nat} {D' : Dk} (h : Many W w (Ent.house d j H G :: L)) (hl : ∀ F, DRep w d H.D F → Left w d F D' w2) : ∃ G', Many W w2 (Ent.house d j { H with D := D' } G' :: L) := by
  obtain ⟨F, v, hr, rfl⟩ := h.first
  obtain ⟨F', h1, h2⟩ := hr.left (hl F hr.disk)
  exact ⟨_, h.turn (y := Ent.house d j { H with D := D' } (F' ++ jbl j v)) ⟨F', v, h1, rfl⟩ (good_house _ _ _ _) h2⟩
end
end Go.Proofs
