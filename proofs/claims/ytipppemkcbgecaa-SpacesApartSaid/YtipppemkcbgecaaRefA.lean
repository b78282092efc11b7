/- Small functions of the reference: In, sameInts. -/
import Derived.Test.YtipppemkcbgecaaPlB
open Go Go.RowKit
namespace Go.Proofs.Ytipppemkcbgecaa
set_option maxRecDepth 100000
theorem refIn (w : World) (x a b : Int) : Calls Try.prog 17 #[.int .i64 x, .int .i64 a, .int .i64 b] w fun e w' => e = .returned (.bool (decide (a ≤ x) && decide (x ≤ b))) ∧ w' = w := by
  by_cases h1 : a ≤ x
  · have h2 : decide (a ≤ x) = true := decide_eq_true h1
    go_enter Try.func17, Try.ntmps17
    go_wp2
    go_ret
    exact ⟨by simp [h2], rfl⟩
  · have h2 : decide (a ≤ x) = false := decide_eq_false h1
    go_enter Try.func17, Try.ntmps17
    go_wp2
    go_ret
    exact ⟨by simp [h2], rfl⟩
set_option maxHeartbeats 1000000 in
/-- sameInts of two lists of one length (not empty). -/
theorem sameInts_eq (p q : Nat → Prop) (u v : Value) (l m : List Int) (w : World) (h1 : RdI p w u l) (h2 : RdI q w v m) (hl : l = m) (hn : 0 < l.length) :
    Calls Try.prog 7 #[u, v] w fun e w' => e = .returned (.bool true) ∧ Below w.heap.size w w' := by
  subst hl
  obtain ⟨b, o, c, rfl, hc1, hm1, _, hx⟩ := h1.at_ hn
  obtain ⟨b', o', c', rfl, hc2, hm2, _, hx'⟩ := h2.at_ hn
  obtain ⟨n, hnn⟩ : ∃ n, l.length = n := ⟨_, rfl⟩
  rw [hnn] at hc1 hc2 hn ⊢
  have hmax : n ≤ 9223372036854775807 := Nat.le_trans hc1 hm1
  have HN := Lib.hid hnn
  have HX := Lib.hid hx
  have HX' := Lib.hid hx'
  clear hnn hx hx' h1 h2
  go_enter Try.func7, Try.ntmps7
  go_wp2
  go_loopw [5] (fun i wr => ∃ k : Nat, k ≤ n ∧ i = .int .i64 k ∧ Hid (Below w.heap.size w wr)) (fun i _ => n - (intOf i).toNat)
  case atStart => exact ⟨0, Nat.zero_le _, rfl, Lib.hid (Below.refl _ _)⟩
  case round =>
    obtain ⟨k, hk, rfl, HB⟩ := hrel
    obtain ⟨hcl, hfr⟩ := bcell HB.out
    by_cases hlt : k < n
    · have x1 := HX.out k (by rw [HN.out]; exact hlt)
      have x2 := HX'.out k (by rw [HN.out]; exact hlt)
      obtain ⟨z, hz⟩ : ∃ z, l.getD k 0 = z := ⟨_, rfl⟩
      rw [hz] at x1 x2
      clear hz
      have x1' := (hcl _ _ (World.block_lt_of_cell? w _ x1)).trans x1
      have x2' := (hcl _ _ (World.block_lt_of_cell? w _ x2)).trans x2
      clear hcl hfr
      go_wp2_with fail
      go_region
      all_goals go_wp2
      go_roundw
      case rel => exact ⟨k + 1, by omega, by go_num, Lib.hid HB.out.drew⟩
      case measure => simp [intOf]; omega
    · go_wp2_with fail
      go_ret
      exact ⟨rfl, HB.out⟩
end Go.Proofs.Ytipppemkcbgecaa
