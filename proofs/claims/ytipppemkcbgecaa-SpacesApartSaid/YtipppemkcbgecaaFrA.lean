/- slices.Index over []int; frames that read as data; frames.Check of frames that may be. -/
import Derived.Test.YtipppemkcbgecaaClone
open Go Go.RowKit
namespace Go.Proofs.Ytipppemkcbgecaa
/-- The first place of a number; -1: it is not there. -/
def idx : List Int → Int → Int
  | [], _ => -1
  | y :: l, x => if x = y then 0 else if idx l x = -1 then -1 else idx l x + 1
theorem idx_ge : ∀ (l : List Int) (x : Int), -1 ≤ idx l x ∧ idx l x < l.length
  | [], _ => by simp [idx]
  | y :: l, x => by
    have := idx_ge l x
    simp only [idx, List.length_cons]
    split
    · omega
    · split <;> omega
theorem idx_hit : ∀ (l : List Int) (x : Int) (k : Nat), k < l.length → (∀ j, j < k → l.getD j 0 ≠ x) → l.getD k 0 = x → idx l x = k
  | [], _, _, h, _, _ => by simp at h
  | y :: l, x, 0, _, _, h => by simp at h; simp [idx, h]
  | y :: l, x, k + 1, hk, hn, h => by
    have h0 : x ≠ y := fun e => hn 0 (by omega) (by simp [e])
    have := idx_hit l x k (by simpa using hk) (fun j hj => by have := hn (j + 1) (by omega); simpa using this) (by simpa using h)
    simp only [idx, if_neg h0, this]
    rw [if_neg (by omega)]; omega
theorem idx_none : ∀ (l : List Int) (x : Int), (∀ j, j < l.length → l.getD j 0 ≠ x) → idx l x = -1
  | [], _, _ => rfl
  | y :: l, x, h => by
    have h0 : x ≠ y := fun e => h 0 (by simp) (by simp [e])
    have := idx_none l x (fun j hj => by have := h (j + 1) (by simpa using hj); simpa using this)
    simp [idx, h0, this]
theorem idx_at (l : List Int) (x : Int) (h : 0 ≤ idx l x) : ∃ k : Nat, idx l x = k ∧ k < l.length ∧ l.getD k 0 = x ∧ ∀ j, j < k → l.getD j 0 ≠ x := by
  induction l with
  | nil => simp [idx] at h
  | cons y l ih =>
    by_cases h0 : x = y
    · exact ⟨0, by simp [idx, h0], by simp, by simp [h0], fun j hj => by omega⟩
    · simp only [idx, if_neg h0] at h ⊢
      by_cases h1 : idx l x = -1
      · rw [if_pos h1] at h; omega
      · rw [if_neg h1] at h ⊢
        have hg := (idx_ge l x).1
        obtain ⟨k, hk, hl, he, hn⟩ := ih (by omega)
        refine ⟨k + 1, by omega, by simpa using hl, by simpa using he, fun j hj => ?_⟩
        rcases j with _ | j
        · simpa using fun e => h0 e.symm
        · simpa using hn j (by omega)
set_option maxRecDepth 100000
set_option maxHeartbeats 400000 in
/-- slices.Index([]int). -/
theorem index_int (p : Nat → Prop) (v : Value) (l : List Int) (x : Int) (w : World) (h : RdI p w v l) :
    Calls Try.prog 24 #[v, .int .i64 x] w fun e w' => e = .returned (.int .i64 (idx l x)) ∧ w = w' := by
  rcases Nat.eq_zero_or_pos l.length with h0 | h0
  · obtain ⟨A, c, rfl, _⟩ := h.form
    have hl : l = [] := List.eq_nil_of_length_eq_zero h0
    subst hl
    go_enter Try.func24, Try.ntmps24
    go_wp2
    go_rounds 1
    go_ret
    exact ⟨rfl, rfl⟩
  · obtain ⟨b, o, c, rfl, h1, h2, hp, hc⟩ := h.at_ h0
    obtain ⟨n, hn⟩ : ∃ n, l.length = n := ⟨_, rfl⟩
    have HC := Lib.hid hc
    have hm : n ≤ 9223372036854775807 := by rw [← hn]; exact Nat.le_trans h1 h2
    have HN := Lib.hid hn
    rw [hn] at h0 h1
    clear hc h
    rw [HN.out]
    clear hn
    go_enter Try.func24, Try.ntmps24
    go_wp2
    go_loop [8] (fun i => ∃ k : Nat, k ≤ n ∧ i = .int .i64 k ∧ ∀ j, j < k → l.getD j 0 ≠ x) (fun i => n - (intOf i).toNat)
    case atStart => exact ⟨0, Nat.zero_le _, rfl, fun j hj => by omega⟩
    case round =>
      obtain ⟨k, hk, rfl, hno⟩ := hrel
      have HO := Lib.hid hno
      clear hno
      by_cases hlt : k < n
      · have hcell := HC.out k (by rw [HN.out]; exact hlt)
        obtain ⟨y, hy⟩ : ∃ y, l.getD k 0 = y := ⟨_, rfl⟩
        rw [hy] at hcell
        have HY := Lib.hid hy
        clear hy
        by_cases hxy : x = y
        · subst hxy
          have HE : Hid (idx l x = k) := idx_hit l x k (by rw [HN.out]; exact hlt) HO.out HY.out
          go_wp2
          go_ret
          exact ⟨by rw [HE.out]; rfl, rfl⟩
        · have hb : (x == y) = false := beq_eq_false_iff_ne.2 hxy
          have HX := Lib.hid hxy
          clear hxy
          go_wp2
          go_round
          case rel => exact ⟨k + 1, by omega, by go_num, fun j hj => by
            rcases Nat.lt_or_ge j k with h | h
            · exact HO.out j h
            · obtain rfl : j = k := by omega
              rw [HY.out]; exact fun e => HX.out e.symm⟩
          case measure => simp [intOf]; omega
      · have HE : Hid (idx l x = -1) := idx_none l x (fun j hj => HO.out j (by rw [HN.out] at hj; omega))
        go_wp2
        go_ret
        exact ⟨by rw [HE.out]; rfl, rfl⟩
end Go.Proofs.Ytipppemkcbgecaa
