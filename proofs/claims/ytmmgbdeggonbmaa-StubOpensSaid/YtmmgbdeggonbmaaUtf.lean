/- What 'for i, c := range s' reads: a rune below 128 is its byte; any other one's bytes are all from 128 on. -/
import Derived.Test.YtmmgbdeggonbmaaBase
import Derived.Lib.OthersKept
open Go Go.RowKit
namespace Go.Proofs.Ytmmgbdeggonbmaa
theorem run_next_any {P : Program} (w : World) (s : ByteArray) (pos : Nat) (ty : TypeId) (h : pos < s.size) :
    (Instr.next (.pointer (some ⟨w.heap.size, 0, none⟩)) true ty).run P (w.iter s pos) =
      .ok (.tuple #[.bool true, .int .i64 pos, .int .i32 (Utf8.decode s pos).1]) (w.iter s (pos + (Utf8.decode s pos).2)) := by
  rw [Lib.run_next_any_at (w.iter s pos) w.heap.size s pos ty (World.iter_heap w s pos) h]
  have e : (w.iter s pos).iterAt w.heap.size s (pos + (Utf8.decode s pos).2) = w.iter s (pos + (Utf8.decode s pos).2) := World.iter_set _ _ _ _
  rw [e]
theorem get_toNat (s : ByteArray) (j : Nat) (h : j < s.size) : s.get! j = s[j]'h := by
  simp [ByteArray.get!, getElem!_pos, h]; rfl
/-- One rune. -/
structure RuneAt (s : ByteArray) (i c n : Nat) : Prop where
  pos : 1 ≤ n
  fits : i + n ≤ s.size
  low : c < 128 → n = 1 ∧ ∀ h : i < s.size, (s[i]'h).toNat = c
  high : 128 ≤ c → c ≤ 1114111 ∧ Utf8.valid c = true ∧ ∀ j, i ≤ j → j < i + n → ∀ h : j < s.size, 128 ≤ (s[j]'h).toNat
theorem rune_at (s : ByteArray) (i : Nat) (h : i < s.size) : RuneAt s i (Utf8.decode s i).1 (Utf8.decode s i).2 := by
  have g0 : s.get! (i + 0) = s[i]'h := get_toNat s i h
  have b0 : (s[i]'h).toNat < 256 := (s[i]'h).toNat_lt
  have bad : ∀ (_ : ¬ (s.get! (i + 0)).toNat < 128), RuneAt s i 65533 1 := fun hb => by
    refine ⟨by omega, by omega, fun hh => by omega, fun _ => ⟨by omega, by decide, fun j h1 h2 hj => ?_⟩⟩
    obtain rfl : j = i := by omega
    rw [← g0]; omega
  simp only [Utf8.decode]
  split
  · rename_i hlt
    exact ⟨by omega, by simp; omega, fun _ => ⟨rfl, fun hh => by rw [← g0]⟩, fun hh => by simp at hh hlt; omega⟩
  · rename_i hge
    split
    · rename_i hc
      split
      · rename_i hc2
        simp only [Bool.and_eq_true, beq_iff_eq, decide_eq_true_eq] at hc
        obtain ⟨e1, e2, e3⟩ := hc
        refine ⟨by simp, by simp; omega, fun hh => by simp at hh hc2; omega, fun _ => ⟨by simp; omega, by simp [Utf8.valid]; omega, fun j h1 h2 hj => ?_⟩⟩
        have hj' : j = i ∨ j = i + 1 := by simp at h2; omega
        rcases hj' with rfl | rfl
        · rw [← g0]; omega
        · rw [← get_toNat s (i + 1) hj]; omega
      · exact bad hge
    · split
      · rename_i hc
        split
        · rename_i hc2
          simp only [Bool.and_eq_true, beq_iff_eq, decide_eq_true_eq] at hc hc2
          obtain ⟨⟨e1, e2, e3⟩, e4, e5⟩ := hc
          refine ⟨by simp, by simp; omega, fun hh => by simp at hh hc2; omega, fun _ => ⟨by simp; omega, hc2.2, fun j h1 h2 hj => ?_⟩⟩
          have hj' : j = i ∨ j = i + 1 ∨ j = i + 2 := by simp at h2; omega
          rcases hj' with rfl | rfl | rfl
          · rw [← g0]; omega
          · rw [← get_toNat s (i + 1) hj]; omega
          · rw [← get_toNat s (i + 2) hj]; omega
        · exact bad hge
      · split
        · rename_i hc
          split
          · rename_i hc2
            simp only [Bool.and_eq_true, beq_iff_eq, decide_eq_true_eq] at hc hc2
            obtain ⟨⟨⟨e1, e2, e3⟩, e4, e5⟩, e6, e7⟩ := hc
            refine ⟨by simp, by simp; omega, fun hh => by simp at hh hc2; omega, fun _ => ⟨?_, hc2.2, fun j h1 h2 hj => ?_⟩⟩
            · have := hc2.2; simp [Utf8.valid] at this; simp; omega
            · have hj' : j = i ∨ j = i + 1 ∨ j = i + 2 ∨ j = i + 3 := by simp at h2; omega
              rcases hj' with rfl | rfl | rfl | rfl
              · rw [← g0]; omega
              · rw [← get_toNat s (i + 1) hj]; omega
              · rw [← get_toNat s (i + 2) hj]; omega
              · rw [← get_toNat s (i + 3) hj]; omega
          · exact bad hge
        · exact bad hge
end Go.Proofs.Ytmmgbdeggonbmaa
