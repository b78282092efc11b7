/- (*Space).Words. -/
import Derived.Test.YtipppemkcbgecaaSpB
open Go Go.RowKit
namespace Go.Proofs.Ytipppemkcbgecaa
def Fr.words (f : Fr) (pg : List Int) : List Int := (List.range 256).map (f.word pg)
def wordsUpTo (f : Fr) (pg : List Int) (k : Nat) : List Int := (List.range k).map (f.word pg) ++ List.replicate (256 - k) 0
theorem wordsUpTo_len (f : Fr) (pg : List Int) (k : Nat) (h : k ≤ 256) : (wordsUpTo f pg k).length = 256 := by simp [wordsUpTo]; omega
theorem wordsUpTo_set (f : Fr) (pg : List Int) (k : Nat) (h : k < 256) : (wordsUpTo f pg k).set k (f.word pg k) = wordsUpTo f pg (k + 1) := by
  have e : 256 - k = (256 - (k + 1)) + 1 := by omega
  simp only [wordsUpTo]
  rw [e, List.replicate_succ, List.set_append_right _ _ (by simp), List.range_succ, List.map_append]
  simp
set_option maxRecDepth 100000
set_option maxHeartbeats 1000000 in
theorem spWords (M : Nat → Prop) (w : World) (s h : Nat) (d r : Value) (f : Fr) (pg : List Int) (fl : Int) (HH : Ho M w h d r f) (HS : Sp w s h pg fl) (hp : PgOk f pg) :
    Calls Try.prog 16 #[.pointer (some ⟨s, 0, none⟩)] w fun e w' => e = .returned (.slice (some ⟨w.heap.size, 0, none⟩) 256 256) ∧ w'.ownsRow w.heap.size 3 1 (.slice (some ⟨w.heap.size, 0, none⟩) 256 256) 256 (ints (f.words pg)) ∧ Below w.heap.size w w' := by
  have hmk : ∀ w : World, (Instr.makeSlice 24 (.int .i64 256) (.int .i64 256)).run Try.prog w = .ok (.slice (some ⟨w.heap.size, 0, none⟩) 256 256) (w.alloc (.cells (madeCells #[.int .i64 0] 256) 3)) := fun w => run_make_ints w 256 (by decide)
  have HP := Lib.hid hp
  have KH := Lib.hid HH
  have KS := Lib.hid HS
  clear hp HH HS
  go_enter Try.func16, Try.ntmps16
  go_wp2_with fail
  have HO0 : Hid ((w.alloc (.cells (madeCells #[.int .i64 0] 256) 3)).ownsRow w.heap.size 3 1 (.slice (some ⟨w.heap.size, 0, none⟩) 256 256) 256 (ints (wordsUpTo f pg 0))) := by
    have := made_own w w.heap.size 3 (.int .i64 0) 256 (Nat.le_refl _) (by decide)
    have e : ints (wordsUpTo f pg 0) = List.replicate 256 (.int .i64 0) := by simp [wordsUpTo, ints]
    rw [e]
    exact this
  go_loopw [8] (fun i wr => ∃ k : Nat, k ≤ 256 ∧ i = .int .i64 k ∧ Hid (wr.ownsRow w.heap.size 3 1 (.slice (some ⟨w.heap.size, 0, none⟩) 256 256) 256 (ints (wordsUpTo f pg k))) ∧ Hid (Below w.heap.size w wr)) (fun i _ => 256 - (intOf i).toNat)
  case atStart => exact ⟨0, Nat.zero_le _, rfl, HO0, Lib.hid (by go_grown)⟩
  case round =>
    obtain ⟨k, hk, rfl, HO, HB⟩ := hrel
    by_cases hlt : k < 256
    · have hx := HO.out.cellAt k (by omega)
      have hf := HO.out.frozenAt k
      obtain ⟨z, hz⟩ : ∃ z, f.word pg k = z := ⟨_, rfl⟩
      have HZ := Lib.hid hz
      clear hz
      rw [ints_at _ k (by rw [wordsUpTo_len _ _ _ hk]; exact hlt)] at hx
      obtain ⟨z', hz'⟩ : ∃ z, (wordsUpTo f pg k).getD k 0 = z := ⟨_, rfl⟩
      rw [hz'] at hx
      clear hz'
      go_wp2_with (
        go_at_call 22
        refine (spLoad M _ s h d r f pg fl k (KH.out.below HB.out) (KS.out.below HB.out) HP.out hlt).mono ?_
        rintro e w1 ⟨rfl, rfl⟩
        rw [HZ.out])
      go_roundw
      case rel =>
        refine ⟨k + 1, by omega, by go_num, Lib.hid ?_, Lib.hid (HB.out.setCell (by simp) _)⟩
        have := (HO.out.stored k (.int .i64 z)).1
        rw [ints_set, ← HZ.out, wordsUpTo_set _ _ _ hlt] at this
        rw [← HZ.out]
        exact this
      case measure => simp [intOf]; omega
    · obtain rfl : k = 256 := by omega
      go_wp2_with fail
      go_ret
      refine ⟨rfl, ?_, HB.out⟩
      have := HO.out
      have e : wordsUpTo f pg 256 = f.words pg := by simp [wordsUpTo, Fr.words]
      rwa [e] at this
end Go.Proofs.Ytipppemkcbgecaa
