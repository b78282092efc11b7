/- Rows of memory that lie apart; what the walk of PlayedOf leaves. -/
import Derived.Test.YtipppemkcbgecaaRefB
import Derived.Test.YtipppemkcbgecaaPlD
open Go Go.RowKit
namespace Go.Proofs.Ytipppemkcbgecaa
/-- A row of a call's own: its block, its type, how long it may be, its cells. -/
structure Rw where
  b : Nat
  t : TypeId
  c : Nat
  l : List Value
def Rw.In (r : Rw) (lo : Nat) (w : World) : Prop := w.ownsRow lo r.t 1 (.slice (some ⟨r.b, 0, none⟩) r.l.length r.c) r.l.length r.l
/-- Rows that lie apart. -/
structure Rws (lo : Nat) (w : World) (rs : List Rw) : Prop where
  apart : (rs.map (·.b)).Nodup
  each : ∀ r, r ∈ rs → r.In lo w
theorem Rw.In.lt {r : Rw} {lo : Nat} {w : World} (h : r.In lo w) : lo ≤ r.b ∧ r.b < w.heap.size := World.ownsRow.lt h r.b rfl
theorem Rw.In.below {r : Rw} {lo : Nat} {w w' : World} (h : r.In lo w) (hb : Below w.heap.size w w') : r.In lo w' := own_below h hb
theorem Rw.In.other {r : Rw} {lo : Nat} {w : World} (h : r.In lo w) {a : Addr} (ha : r.b ≠ a.block) (v : Value) : r.In lo (w.setCell a v) := ownsRow_setCell_other h (by simpa [Value.ownBlock] using ha) v
theorem Rw.In.cell {r : Rw} {lo : Nat} {w : World} (h : r.In lo w) (i : Nat) (hi : i < r.l.length) : w.cell? ⟨r.b, i, none⟩ = some (r.l.getD i undef) := by
  have := World.ownsRow.cells h (g := r.b) rfl i _ (getD_some r.l i undef hi)
  rw [add_at, Nat.zero_add] at this
  exact this
theorem Rw.In.frozen {r : Rw} {lo : Nat} {w : World} (h : r.In lo w) (i : Nat) : w.frozen? ⟨r.b, i, none⟩ = false := World.ownsRow.frozenAt h i
theorem Rws.below {lo : Nat} {w w' : World} {rs : List Rw} (h : Rws lo w rs) (hb : Below w.heap.size w w') : Rws lo w' rs := ⟨h.apart, fun r hr => (h.each r hr).below hb⟩
theorem Rws.nil (lo : Nat) (w : World) : Rws lo w [] := ⟨by simp, fun r hr => by cases hr⟩
/-- One more, in a new block. -/
theorem Rws.new {lo : Nat} {w w' : World} {rs : List Rw} (h : Rws lo w rs) (hb : Below w.heap.size w w') {r : Rw} (hr : r.In w.heap.size w') (hl : lo ≤ w.heap.size) : Rws lo w' (r :: rs) := by
  refine ⟨?_, fun q hq => ?_⟩
  · rw [List.map_cons, List.nodup_cons]
    refine ⟨fun hm => ?_, h.apart⟩
    obtain ⟨q, hq, e⟩ := List.mem_map.1 hm
    have h1 := (h.each q hq).lt.2
    have h2 := hr.lt.1
    omega
  · rcases List.mem_cons.1 hq with rfl | hq
    · exact own_base_le hr hl
    · exact (h.each q hq).below hb
theorem Rws.out {lo : Nat} {w : World} {rs : List Rw} (h : Rws lo w rs) {a : Addr} (ha : ∀ r, r ∈ rs → r.b ≠ a.block) (v : Value) : Rws lo (w.setCell a v) rs := ⟨h.apart, fun r hr => (h.each r hr).other (ha r hr) v⟩
theorem Rws.set {lo : Nat} {w : World} {A B : List Rw} {r : Rw} (h : Rws lo w (A ++ r :: B)) (i : Nat) (v : Value) : Rws lo (w.setCell ⟨r.b, i, none⟩ v) (A ++ { r with l := r.l.set i v } :: B) := by
  have hn := h.apart
  rw [List.map_append, List.map_cons, List.nodup_append] at hn
  obtain ⟨_, h2, h3⟩ := hn
  rw [List.nodup_cons] at h2
  refine ⟨?_, fun q hq => ?_⟩
  · have := h.apart
    rw [List.map_append, List.map_cons] at this ⊢
    exact this
  · rcases List.mem_append.1 hq with hq | hq
    · exact (h.each q (List.mem_append.2 (.inl hq))).other (by
        have := h3 q.b (List.mem_map.2 ⟨q, hq, rfl⟩) r.b (by simp)
        simpa using this) v
    · rcases List.mem_cons.1 hq with rfl | hq
      · have h4 := h.each r (List.mem_append.2 (.inr (by simp)))
        have h5 := (World.ownsRow.stored h4 i v).1
        unfold Rw.In
        simp only [List.length_set]
        exact h5
      · exact (h.each q (List.mem_append.2 (.inr (List.mem_cons.2 (.inr hq))))).other (by
          have := h2.1
          intro e
          exact this (List.mem_map.2 ⟨q, hq, e⟩)) v
def bools (l : List Bool) : List Value := l.map Value.bool
theorem bools_len (l : List Bool) : (bools l).length = l.length := by simp [bools]
theorem bools_at (l : List Bool) (j : Nat) (h : j < l.length) : (bools l).getD j undef = .bool (l.getD j false) := by
  simp [bools, List.getElem?_eq_getElem h, List.getD_eq_getElem?_getD]
theorem bools_set (l : List Bool) (i : Nat) (x : Bool) : (bools l).set i (.bool x) = bools (l.set i x) := by simp [bools, List.map_set]
theorem ints_getD (l : List Int) (j : Nat) (h : j < l.length) : (ints l).getD j undef = .int .i64 (l.getD j 0) := by
  simp [ints, List.getElem?_eq_getElem h, List.getD_eq_getElem?_getD]
theorem refA_err {n : Nat} {l : List Int} {e : Int} {k : Nat} (h : refA n l k = .error e) : ∀ m, k ≤ m → refA n l m = .error e
  | 0, hm => by
    obtain rfl : k = 0 := by omega
    exact h
  | m + 1, hm => by
    by_cases hk : k = m + 1
    · rw [← hk]; exact h
    · simp only [refA]
      rw [refA_err h m (by omega)]
theorem refB_err {n : Nat} {s0 : RB} {l : List Int} {e : Int} {k : Nat} (h : refB n s0 l k = .error e) : ∀ m, k ≤ m → refB n s0 l m = .error e
  | 0, hm => by
    obtain rfl : k = 0 := by omega
    exact h
  | m + 1, hm => by
    by_cases hk : k = m + 1
    · rw [← hk]; exact h
    · simp only [refB]
      rw [refB_err h m (by omega)]
theorem refStepA_len {n : Nat} {a : List Int} {has : List Bool} {known : Nat} {at_ v : Int} {a' : List Int} {has' : List Bool} {known' : Nat} (hk : known ≤ n) (h : refStepA n a has known at_ v = .ok (a', has', known')) : a'.length = a.length ∧ has'.length = has.length ∧ known' ≤ n := by
  unfold refStepA at h
  split at h
  · split at h
    · cases h; exact ⟨by simp, rfl, hk⟩
    · split at h
      · cases h
      · cases h; exact ⟨by simp, by simp, by omega⟩
  · cases h
theorem refA_len {n : Nat} {l : List Int} : ∀ k a has known, refA n l k = .ok (a, has, known) → a.length = 256 ∧ has.length = 16 ∧ known ≤ n
  | 0, a, has, known, h => by
    simp only [refA, Except.ok.injEq, Prod.mk.injEq] at h
    obtain ⟨rfl, rfl, rfl⟩ := h
    exact ⟨List.length_replicate, List.length_replicate, Nat.zero_le _⟩
  | k + 1, a, has, known, h => by
    simp only [refA] at h
    split at h
    · cases h
    · rename_i a0 has0 known0 h0
      obtain ⟨h1, h2, h3⟩ := refA_len k a0 has0 known0 h0
      obtain ⟨h4, h5, h6⟩ := refStepA_len h3 h
      exact ⟨h4.trans h1, h5.trans h2, h6⟩
structure RB.Len (s : RB) : Prop where
  a : s.a.length = 256
  b : s.b.length = 256
  sh : s.sh.length = 16
  oa : s.oa.length = 16
  ob : s.ob.length = 16
theorem refStepB_len {n : Nat} {s t : RB} {at_ v : Int} {who : Bool} (hs : s.Len) (hk : s.known ≤ n) (h : refStepB n s at_ v who = .ok t) : t.Len ∧ t.known ≤ n := by
  obtain ⟨h1, h2, h3, h4, h5⟩ := hs
  unfold refStepB at h
  split at h
  · split at h
    · split at h
      · cases h
      · cases h; cases who <;> exact ⟨⟨by simp [RB.put, RB.part, h1], by simp [RB.put, RB.part, h2], by simp [RB.put, RB.part, h3], by simp [RB.put, RB.part, h4], by simp [RB.put, RB.part, h5]⟩, by simp [RB.put, RB.part]; omega⟩
    · split at h
      · cases h; cases who <;> exact ⟨⟨by simp [RB.put, h1], by simp [RB.put, h2], by simp [RB.put, h3], by simp [RB.put, h4], by simp [RB.put, h5]⟩, by simpa [RB.put] using hk⟩
      · split at h
        · cases h
        · cases h; cases who <;> exact ⟨⟨by simp [RB.put, RB.take, h1], by simp [RB.put, RB.take, h2], by simp [RB.put, RB.take, h3], by simp [RB.put, RB.take, h4], by simp [RB.put, RB.take, h5]⟩, by simp [RB.put, RB.take]; omega⟩
  · cases h
theorem refB_len {n : Nat} {s0 : RB} {l : List Int} (h0 : s0.Len) (hk : s0.known ≤ n) : ∀ k s, refB n s0 l k = .ok s → s.Len ∧ s.known ≤ n
  | 0, s, h => by
    simp only [refB, Except.ok.injEq] at h
    subst h
    exact ⟨h0, hk⟩
  | k + 1, s, h => by
    simp only [refB] at h
    split at h
    · cases h
    · rename_i s1 h1
      obtain ⟨h2, h3⟩ := refB_len h0 hk k s1 h1
      exact refStepB_len h2 h3 h
theorem Rws.quiet {lo : Nat} {w : World} {rs : List Rw} (h : Rws lo w rs) (o : Obj) : Rws lo (w.alloc o) rs := h.below ((Below.refl _ _).alloc (Nat.le_refl _) _)
theorem Rws.drew {lo : Nat} {w : World} {rs : List Rw} (h : Rws lo w rs) : Rws lo w.drew rs := h.below ((Below.refl _ _).drew)
theorem Rws.swap {lo : Nat} {w : World} {x y : Rw} {rs : List Rw} (h : Rws lo w (x :: y :: rs)) : Rws lo w (y :: x :: rs) := by
  refine ⟨?_, fun r hr => h.each r (by simp at hr ⊢; rcases hr with h1 | h1 | h1 <;> simp [h1])⟩
  have := h.apart
  simp only [List.map_cons, List.nodup_cons, List.mem_cons, not_or] at this ⊢
  exact ⟨⟨fun e => this.1.1 e.symm, this.2.1⟩, this.1.2, this.2.2⟩
/-- 16 new bools. -/
abbrev mk16 : Obj := .cells (madeCells #[.bool false] 16) 4
abbrev no16 : List Bool := List.replicate 16 false
theorem Rws.made {lo : Nat} {w : World} {rs : List Rw} (h : Rws lo w rs) (hl : lo ≤ w.heap.size) : Rws lo (w.alloc mk16) (⟨w.heap.size, 4, 16, bools no16⟩ :: rs) :=
  h.new ((Below.refl _ _).alloc (Nat.le_refl _) _) (by
    have := made_own w w.heap.size 4 (.bool false) 16 (Nat.le_refl _) (by decide)
    have e : bools no16 = List.replicate 16 (.bool false) := by simp [bools]
    unfold Rw.In
    rw [e, List.length_replicate]
    exact this) hl
def shUpTo (has : List Bool) (k : Nat) : List Bool := has.take k ++ List.replicate (16 - k) false
theorem shUpTo_len {has : List Bool} (h : has.length = 16) {k : Nat} (hk : k ≤ 16) : (shUpTo has k).length = 16 := by simp [shUpTo, h]; omega
theorem shUpTo_set {has : List Bool} (h : has.length = 16) {k : Nat} (hk : k < 16) : (shUpTo has k).set k (has.getD k false) = shUpTo has (k + 1) := by
  have e : 16 - k = (16 - (k + 1)) + 1 := by omega
  have e2 : has.take (k + 1) = has.take k ++ [has.getD k false] := by rw [List.take_add_one, getD_some has k false (by omega)]; rfl
  have e3 : (has.take k).length = k := by rw [List.length_take]; omega
  simp only [shUpTo]
  rw [e, List.replicate_succ, List.set_append_right _ _ (by omega), e3, Nat.sub_self, List.set_cons_zero, e2]
  simp
def RefPost (w : World) (res : Except Int (List Int × List Int × Nat)) (e : Ending) (w' : World) : Prop :=
  Below w.heap.size w w' ∧ match res with
    | .error x => e = .returned (.tuple #[.slice none 0 0, .slice none 0 0, .int .i64 0, .int .i64 x])
    | .ok (a, b, k) => ∃ ga ca gb cb, e = .returned (.tuple #[.slice (some ⟨ga, 0, none⟩) 256 ca, .slice (some ⟨gb, 0, none⟩) 256 cb, .int .i64 (k : Nat), .int .i64 0]) ∧
        w'.ownsRow w.heap.size 3 1 (.slice (some ⟨ga, 0, none⟩) 256 ca) 256 (ints a) ∧ w'.ownsRow w.heap.size 3 1 (.slice (some ⟨gb, 0, none⟩) 256 cb) 256 (ints b)
end Go.Proofs.Ytipppemkcbgecaa
