/- space.fault. -/
import Derived.Test.YtipppemkcbgecaaSpF
open Go Go.RowKit
namespace Go.Proofs.Ytipppemkcbgecaa
set_option maxRecDepth 100000
set_option maxHeartbeats 400000 in
theorem spFault0 (w : World) (s h : Nat) (pg : List Int) (HS : Sp w s h pg 0) :
    Calls Try.prog 14 #[.pointer (some ⟨s, 0, none⟩)] w fun e w' => e = .returned (.int .i64 2) ∧ w' = w := by
  have hfl := HS.fault
  go_enter Try.func14, Try.ntmps14
  go_wp2
  go_ret
  exact ⟨rfl, rfl⟩
set_option maxHeartbeats 400000 in
theorem spFault7 (w : World) (s h : Nat) (pg : List Int) (HS : Sp w s h pg 7) :
    Calls Try.prog 14 #[.pointer (some ⟨s, 0, none⟩)] w fun e w' => e = .returned (.int .i64 7) ∧ w' = w := by
  have hfl := HS.fault
  go_enter Try.func14, Try.ntmps14
  go_wp2
  go_ret
  exact ⟨rfl, rfl⟩
end Go.Proofs.Ytipppemkcbgecaa
