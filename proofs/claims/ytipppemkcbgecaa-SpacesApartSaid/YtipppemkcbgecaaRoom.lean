/- There is room as long as there are as many frames as pages. -/
import Derived.Test.YtipppemkcbgecaaInvF
open Go Go.RowKit
namespace Go.Proofs.Ytipppemkcbgecaa
/-- The pages of a space that are in a frame. -/
def full (pg : List Int) : Nat := (pg.filter (fun x => decide (0 ≤ x))).length
def fulls (pgs : List (List Int)) : Nat := (pgs.map full).sum
theorem used_le_sum : ∀ (l : List Int), (∀ x, x ∈ l → 0 ≤ x) → (((l.filter (fun x => decide (0 < x))).length : Nat) : Int) ≤ l.sum
  | [], _ => by simp
  | y :: l, h => by
    have ih := used_le_sum l (fun x hx => h x (List.mem_cons_of_mem _ hx))
    have h0 := h y (by simp)
    simp only [List.filter_cons, List.sum_cons]
    by_cases hy : 0 < y
    · simp only [hy, decide_true, if_true, List.length_cons]; omega
    · simp only [hy, decide_false]; simp; omega
theorem sum_zero : ∀ N : Nat, ((List.range N).map (fun _ => (0 : Nat))).sum = 0
  | 0 => rfl
  | N + 1 => by rw [List.range_succ, List.map_append, List.sum_append, sum_zero N]; rfl
theorem sum_add (f g : Nat → Nat) : ∀ N : Nat, ((List.range N).map (fun n => f n + g n)).sum = ((List.range N).map f).sum + ((List.range N).map g).sum
  | 0 => rfl
  | N + 1 => by
    have ih := sum_add f g N
    simp only [List.range_succ, List.map_append, List.sum_append, List.map_cons, List.map_nil, List.sum_cons, List.sum_nil]
    omega
theorem sum_one (y : Int) : ∀ N : Nat, ((List.range N).map (fun n => if y = (n : Nat) then 1 else 0)).sum = if 0 ≤ y ∧ y < N then 1 else 0
  | 0 => by simp
  | N + 1 => by
    have ih := sum_one y N
    simp only [List.range_succ, List.map_append, List.sum_append, List.map_cons, List.map_nil, List.sum_cons, List.sum_nil, ih]
    split <;> split <;> split <;> omega
theorem sum_count (N : Nat) : ∀ (pg : List Int), (∀ y, y ∈ pg → y < N) → ((List.range N).map (fun n => pg.count ((n : Nat) : Int))).sum = full pg
  | [], _ => by simp [full, sum_zero]
  | y :: l, h => by
    have ih := sum_count N l (fun z hz => h z (List.mem_cons_of_mem _ hz))
    have h0 := h y (by simp)
    have e : (fun n : Nat => (y :: l).count (n : Int)) = (fun n : Nat => l.count (n : Int) + (if y = (n : Nat) then 1 else 0)) := by
      funext n
      rw [List.count_cons]
      simp
    rw [e, sum_add, ih, sum_one]
    unfold full
    rw [List.filter_cons]
    by_cases hy : 0 ≤ y
    · simp [hy, h0]
    · simp [hy]
theorem sum_cnt (N : Nat) : ∀ (pgs : List (List Int)), (∀ pg, pg ∈ pgs → ∀ y, y ∈ pg → y < N) → ((List.range N).map (cnt pgs)).sum = fulls pgs
  | [], _ => by
    have e : cnt [] = fun _ => 0 := by funext n; rfl
    rw [e, sum_zero]; rfl
  | pg :: b, h => by
    have ih := sum_cnt N b (fun q hq => h q (List.mem_cons_of_mem _ hq))
    have e : cnt (pg :: b) = fun n : Nat => pg.count (n : Int) + cnt b n := by funext n; exact cnt_cons pg b n
    rw [e, sum_add, ih, sum_count N pg (h pg (by simp))]
    simp [fulls]
theorem sum_cast (g : Nat → Nat) : ∀ N : Nat, ((List.range N).map (fun n => ((g n : Nat) : Int))).sum = (((List.range N).map g).sum : Nat)
  | 0 => rfl
  | N + 1 => by
    have ih := sum_cast g N
    simp only [List.range_succ, List.map_append, List.sum_append, List.map_cons, List.map_nil, List.sum_cons, List.sum_nil, ih]
    omega
theorem Inv.lt {f : Fr} {pgs : List (List Int)} (h : Inv f pgs) {pg : List Int} (hp : pg ∈ pgs) {y : Int} (hy : y ∈ pg) (hN : 0 < f.refs.length ∨ y < 0) : y < f.refs.length := by
  obtain ⟨i, hi, rfl⟩ := List.mem_iff_getElem.1 hy
  have hl := h.len pg hp
  have e : pg.getD i 0 = pg[i] := by rw [List.getD_eq_getElem?_getD, List.getElem?_eq_getElem hi]; rfl
  rcases h.page pg hp i (by omega) with h1 | h1
  · rw [e] at h1; omega
  · rw [e] at h1; exact h1.2
theorem Inv.sum {f : Fr} {pgs : List (List Int)} (h : Inv f pgs) (h0 : 0 < f.refs.length) : f.refs.sum = fulls pgs := by
  have e : f.refs = (List.range f.refs.length).map (fun n => ((cnt pgs n : Nat) : Int)) := by
    apply List.ext_getElem (by simp)
    intro i h1 h2
    have := h.refs i h1
    rw [List.getD_eq_getElem?_getD, List.getElem?_eq_getElem h1] at this
    simpa using this
  rw [e, sum_cast, sum_cnt _ _ (fun pg hp y hy => h.lt hp hy (.inl h0))]
theorem Inv.used_le {f : Fr} {pgs : List (List Int)} (h : Inv f pgs) (h0 : 0 < f.refs.length) : f.used ≤ fulls pgs := by
  have := used_le_sum f.refs (fun x hx => by
    obtain ⟨i, hi, rfl⟩ := List.mem_iff_getElem.1 hx
    have := (h.ok.refs i hi).1
    rwa [List.getD_eq_getElem?_getD, List.getElem?_eq_getElem hi] at this)
  rw [h.sum h0] at this
  unfold Fr.used
  omega
theorem full_le (pg : List Int) : full pg ≤ pg.length := List.length_filter_le _ _
theorem full_lt : ∀ (pg : List Int) (p : Nat), p < pg.length → pg.getD p 0 < 0 → full pg + 1 ≤ pg.length
  | [], p, h, _ => by simp at h
  | y :: l, 0, _, h => by
    have hy : ¬ 0 ≤ y := by simpa using h
    have := full_le l
    simp only [full, List.filter_cons, hy, decide_false, List.length_cons] at *
    simpa using this
  | y :: l, p + 1, hp, h => by
    have ih := full_lt l p (by simpa using hp) (by simpa using h)
    unfold full at *
    rw [List.filter_cons]
    split
    · simp only [List.length_cons]; omega
    · simp only [List.length_cons]; omega
theorem fulls_le : ∀ (pgs : List (List Int)), (∀ pg, pg ∈ pgs → pg.length = 16) → fulls pgs ≤ 16 * pgs.length
  | [], _ => by simp [fulls]
  | pg :: b, h => by
    have ih := fulls_le b (fun q hq => h q (List.mem_cons_of_mem _ hq))
    have h1 := full_le pg
    have h2 := h pg (by simp)
    simp only [fulls, List.map_cons, List.sum_cons, List.length_cons] at *
    omega
theorem fulls_append (a b : List (List Int)) : fulls (a ++ b) = fulls a + fulls b := by simp [fulls]
theorem fulls_cons (a : List Int) (b : List (List Int)) : fulls (a :: b) = full a + fulls b := by simp [fulls]
/-- An empty page: there is room. -/
theorem Inv.room_take {f : Fr} {a b : List (List Int)} {pg : List Int} (h : Inv f (a ++ pg :: b)) {p : Nat} (hp : p < 16) (h0 : pg.getD p 0 < 0) (hN : 16 * (a ++ pg :: b).length ≤ f.refs.length) : f.free ≠ none := by
  intro hf
  have hu := h.ok.free_iff.1 hf
  have hm : pg ∈ a ++ pg :: b := by simp
  have h1 := full_lt pg p (by rw [h.len pg hm]; exact hp) h0
  have h2 := fulls_le a (fun q hq => h.len q (List.mem_append.2 (.inl hq)))
  have h3 := fulls_le b (fun q hq => h.len q (List.mem_append.2 (.inr (List.mem_cons.2 (.inr hq)))))
  have h4 := h.len pg hm
  simp only [List.length_append, List.length_cons] at hN
  have h5 := h.used_le (by omega)
  rw [fulls_append, fulls_cons] at h5
  omega
theorem used_lt_sum : ∀ (l : List Int), (∀ x, x ∈ l → 0 ≤ x) → ∀ i, i < l.length → 1 < l.getD i 0 → (((l.filter (fun x => decide (0 < x))).length : Nat) : Int) + 1 ≤ l.sum
  | [], _, i, hi, _ => by simp at hi
  | y :: l, h, 0, _, h1 => by
    have hy : 1 < y := by simpa using h1
    have := used_le_sum l (fun x hx => h x (List.mem_cons_of_mem _ hx))
    have hy' : 0 < y := by omega
    simp only [List.filter_cons, hy', decide_true, if_true, List.length_cons, List.sum_cons]
    omega
  | y :: l, h, i + 1, hi, h1 => by
    have ih := used_lt_sum l (fun x hx => h x (List.mem_cons_of_mem _ hx)) i (by simpa using hi) (by simpa using h1)
    have h0 := h y (by simp)
    simp only [List.filter_cons, List.sum_cons]
    by_cases hy : 0 < y
    · simp only [hy, decide_true, if_true, List.length_cons]; omega
    · simp only [hy, decide_false]; simp; omega
/-- A frame that several know: there is room. -/
theorem Inv.room_part {f : Fr} {pgs : List (List Int)} (h : Inv f pgs) {n : Nat} (hn : n < f.refs.length) (h2 : 1 < f.refs.getD n 0) (hN : 16 * pgs.length ≤ f.refs.length) : f.free ≠ none := by
  intro hf
  have hu := h.ok.free_iff.1 hf
  have h3 := used_lt_sum f.refs (fun x hx => by
    obtain ⟨i, hi, rfl⟩ := List.mem_iff_getElem.1 hx
    have := (h.ok.refs i hi).1
    rwa [List.getD_eq_getElem?_getD, List.getElem?_eq_getElem hi] at this) n hn h2
  rw [h.sum (by omega)] at h3
  have h4 := fulls_le pgs h.len
  unfold Fr.used at hu
  omega
/-- As many frames as pages: a store is not refused. -/
theorem Inv.store_some {f : Fr} {a b : List (List Int)} {pg : List Int} (h : Inv f (a ++ pg :: b)) (hN : 16 * (a ++ pg :: b).length ≤ f.refs.length) {at_ : Nat} (ha : at_ < 256) (x : Int) : ∃ f' pg', f.store pg at_ x = some (f', pg') := by
  have hp : at_ / 16 < 16 := by omega
  have hg : ∃ f1 pg1, f.grab pg (at_ / 16) = some (f1, pg1) := by
    unfold Fr.grab
    split
    · rename_i h0
      cases hf : f.free with
      | none => exact absurd hf (h.room_take hp h0 hN)
      | some i => exact ⟨_, _, rfl⟩
    · exact ⟨_, _, rfl⟩
  obtain ⟨f1, pg1, hg⟩ := hg
  obtain ⟨h1, h2⟩ := h.grab hp hg
  have hl : f1.refs.length = f.refs.length := by
    unfold Fr.grab at hg
    split at hg
    · split at hg
      · cases hg
      · cases hg; rw [Fr.refs_take, List.length_set]
    · cases hg; rfl
  have hm : pg1 ∈ a ++ pg1 :: b := by simp
  rcases h1.pgOk hm (at_ / 16) hp with h3 | ⟨_, h4, h5⟩
  · omega
  · have hw : ∃ f2 n, f1.write (pg1.getD (at_ / 16) 0).toNat (at_ % 16) x = some (f2, n) := by
      unfold Fr.write
      split
      · exact ⟨_, _, rfl⟩
      · rename_i h6
        have h7 := (h1.ok.refs _ h4).1
        cases hf : f1.free with
        | none => exact absurd hf (h1.room_part h4 (by omega) (by rw [hl]; simpa using hN))
        | some i => exact ⟨_, _, rfl⟩
    obtain ⟨f2, n, hw⟩ := hw
    exact ⟨f2, pg1.set (at_ / 16) n, by unfold Fr.store; rw [hg]; simp only []; rw [hw]⟩
end Go.Proofs.Ytipppemkcbgecaa
