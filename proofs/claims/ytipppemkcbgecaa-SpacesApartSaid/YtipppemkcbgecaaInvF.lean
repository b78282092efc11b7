/- What a fork does to the counts. -/
import Derived.Test.YtipppemkcbgecaaInvW
open Go Go.RowKit
namespace Go.Proofs.Ytipppemkcbgecaa
theorem shareN_count (f : Fr) (pg : List Int) (hl : pg.length = 16) (n : Nat) (hn : n < f.refs.length) (hp : ∀ i, i < 16 → pg.getD i 0 = -1 ∨ (0 ≤ pg.getD i 0 ∧ pg.getD i 0 < f.refs.length)) :
    ∀ k, k ≤ 16 → (f.shareN pg k).refs.getD n 0 = f.refs.getD n 0 + ((pg.take k).count (n : Int) : Nat)
  | 0, _ => by simp [Fr.shareN]
  | k + 1, hk => by
    have ih := shareN_count f pg hl n hn hp k (by omega)
    have e : pg.take (k + 1) = pg.take k ++ [pg.getD k 0] := by
      rw [List.take_add_one, getD_some pg k 0 (by omega)]; rfl
    rw [e, List.count_append]
    simp only [Fr.shareN]
    rcases hp k (by omega) with h1 | ⟨h1, h2⟩
    · rw [if_pos (by omega), ih, h1]
      have : ¬ ((-1 : Int) = (n : Nat)) := by omega
      simp [this]
    · rw [if_neg (by omega)]
      have e2 : ((f.shareN pg k).setRef (pg.getD k 0).toNat ((f.shareN pg k).refs.getD (pg.getD k 0).toNat 0 + 1)).refs.getD n 0 = if (pg.getD k 0).toNat = n then (f.shareN pg k).refs.getD (pg.getD k 0).toNat 0 + 1 else (f.shareN pg k).refs.getD n 0 :=
        getD_set' (f.shareN pg k).refs _ n _ 0 (by rw [f.shareN_len]; exact hn)
      rw [e2]
      by_cases e3 : (pg.getD k 0).toNat = n
      · have e4 : pg.getD k 0 = n := by omega
        rw [if_pos e3, e3, ih, e4]
        simp; omega
      · have e4 : ¬ (pg.getD k 0 = (n : Nat)) := by omega
        rw [if_neg e3, ih]
        have : List.count (n : Int) [pg.getD k 0] = 0 := by
          rw [List.count_eq_zero]
          simp only [List.mem_singleton]
          exact fun h => e4 h.symm
        rw [this]
        simp
theorem Inv.fork {f : Fr} {pg : List Int} {b : List (List Int)} (h : Inv f (pg :: b)) (hlow : ∀ i, i < f.refs.length → f.refs.getD i 0 + 16 ≤ 200) : Inv (f.shareN pg 16) (pg :: pg :: b) := by
  have hm : pg ∈ pg :: b := by simp
  have hl := h.len pg hm
  refine ⟨h.ok.shareN (h.pgOk hm) hlow 16 (Nat.le_refl _), fun q hq => ?_, fun q hq => ?_, fun n hn => ?_⟩
  · rcases List.mem_cons.1 hq with rfl | hq
    · exact hl
    · exact h.len q hq
  · rw [f.shareN_len]
    rcases List.mem_cons.1 hq with rfl | hq
    · exact h.page q hm
    · exact h.page q hq
  · rw [f.shareN_len] at hn
    have := shareN_count f pg hl n hn (h.page pg hm) 16 (Nat.le_refl _)
    rw [this, h.refs n hn, List.take_of_length_le (by omega), cnt_cons, cnt_cons, cnt_cons]
    omega
theorem shareN_word (f : Fr) (pg q : List Int) (k c : Nat) : (f.shareN pg k).word q c = f.word q c := by
  unfold Fr.word
  rw [f.shareN_data]
/-- How many frames somebody knows. -/
def Fr.used (f : Fr) : Nat := (f.refs.filter (fun x => decide (0 < x))).length
theorem used_set (l : List Int) : ∀ (i : Nat) (x : Int), i < l.length → (((l.set i x).filter (fun x => decide (0 < x))).length : Int) = (l.filter (fun x => decide (0 < x))).length - (if 0 < l.getD i 0 then 1 else 0) + (if 0 < x then 1 else 0) := by
  induction l with
  | nil => intro i x h; simp at h
  | cons y l ih =>
    intro i x h
    rcases i with _ | i
    · simp only [List.set_cons_zero, List.filter_cons, List.getD_cons_zero]
      by_cases h1 : 0 < x <;> by_cases h2 : 0 < y
      all_goals simp [h1, h2]
      all_goals omega
    · have := ih i x (by simpa using h)
      simp only [List.set_cons_succ, List.filter_cons, List.getD_cons_succ]
      by_cases h2 : 0 < y
      · simp only [h2, decide_true, if_true, List.length_cons]; omega
      · simp only [h2, decide_false]; simpa using this
theorem Fr.Ok.free_iff {f : Fr} (h : f.Ok) : f.free = none ↔ f.used = f.refs.length := by
  constructor
  · intro hf
    have hn : ∀ j, j < f.refs.length → 0 < f.refs.getD j 0 := by
      intro j hj
      have h0 := (h.refs j hj).1
      rcases Int.lt_or_eq_of_le h0 with h1 | h1
      · exact h1
      · exfalso
        have hx := Fr.free_none hf
        have : ∃ k : Nat, k ≤ j ∧ f.refs.getD k 0 = 0 ∧ ∀ m, m < k → f.refs.getD m 0 ≠ 0 := by
          clear hx hf h0
          induction j using Nat.strongRecOn with
          | _ j ihj =>
            by_cases hz : ∃ m, m < j ∧ f.refs.getD m 0 = 0
            · obtain ⟨m, hm, hm0⟩ := hz
              obtain ⟨k, hk, h1, h2⟩ := ihj m hm (by omega) hm0.symm
              exact ⟨k, by omega, h1, h2⟩
            · exact ⟨j, Nat.le_refl _, h1.symm, fun m hm he => hz ⟨m, hm, he⟩⟩
        obtain ⟨k, hk, hk1, hk2⟩ := this
        have := idx_hit f.refs 0 k (by omega) hk2 hk1
        omega
    unfold Fr.used
    rw [List.filter_eq_self.2]
    intro x hx
    obtain ⟨i, hi, rfl⟩ := List.mem_iff_getElem.1 hx
    have := hn i hi
    rw [List.getD_eq_getElem?_getD, List.getElem?_eq_getElem hi] at this
    simpa using this
  · intro hu
    cases hf : f.free with
    | none => rfl
    | some i =>
      exfalso
      obtain ⟨_, h1, h2⟩ := Fr.free_some hf
      have := used_set f.refs i 1 h1
      rw [h2] at this
      have hle := List.length_filter_le (fun x : Int => decide (0 < x)) (f.refs.set i 1)
      rw [List.length_set] at hle
      unfold Fr.used at hu
      simp at this
      omega
end Go.Proofs.Ytipppemkcbgecaa
