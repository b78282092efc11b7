/- The reference's words: a list in memory of the call's own. -/
import Derived.Test.YtipppemkcbgecaaRefA
open Go Go.RowKit
namespace Go.Proofs.Ytipppemkcbgecaa
set_option maxRecDepth 100000
theorem ints_take (l : List Int) (k : Nat) (h : k < l.length) : ints (l.take k) ++ [.int .i64 (l.getD k 0)] = ints (l.take (k + 1)) := by
  have e : l.take (k + 1) = l.take k ++ [l.getD k 0] := by rw [List.take_add_one, getD_some l k 0 h]; rfl
  rw [e]; simp [ints]
set_option maxHeartbeats 1000000 in
theorem refWords (p : Nat → Prop) (v : Value) (l : List Int) (w : World) (h : RdI p w v l) (hl : l.length ≤ 1000) :
    Calls Try.prog 18 #[v] w fun e w' => ∃ A c, e = .returned (.slice A l.length c) ∧ w'.ownsRow w.heap.size 3 1 (.slice A l.length c) l.length (ints l) ∧ Below w.heap.size w w' := by
  obtain ⟨i0, hi, hz0, hz1, hz2⟩ := zrow info_int
  have H := Lib.hid h
  obtain ⟨A, c, rfl, hc, hm⟩ := h.form
  clear h
  have hm' : c ≤ 9223372036854775807 := hm
  obtain ⟨n, hn⟩ : ∃ n, l.length = n := ⟨_, rfl⟩
  rw [hn] at hl hc ⊢
  have HN := Lib.hid hn
  rw [hn] at H
  clear hn hm
  go_enter Try.func18, Try.ntmps18
  go_wp2
  go_loopw [3, 4] (fun u i wr => ∃ k : Nat, k ≤ n ∧ i = .int .i64 k ∧ Hid (wr.ownsRow w.heap.size 3 1 u k (ints (l.take k))) ∧ Hid (Below w.heap.size w wr)) (fun _ i _ => n - (intOf i).toNat)
  case atStart => exact ⟨0, Nat.zero_le _, rfl, Lib.hid ⟨rfl, .inl ⟨rfl, rfl⟩⟩, Lib.hid (Below.refl _ _)⟩
  case round =>
    obtain ⟨k, hk, rfl, HO, HB⟩ := hrel
    by_cases hlt : k < n
    · obtain ⟨b, o, c', e, _, _, _, hx⟩ := (H.out.below HB.out).at_ (by rw [HN.out]; omega)
      rw [HN.out] at e
      cases e
      have x0 := hx k (by rw [HN.out]; exact hlt)
      obtain ⟨z, hz⟩ : ∃ z, l.getD k 0 = z := ⟨_, rfl⟩
      rw [hz] at x0
      have HZ := Lib.hid hz
      clear hx hz
      have hsz := HB.out.size
      have hblk := World.block_lt_of_cell? _ _ x0
      go_wp2_with (at_builtin; refine wpList_append_own _ rfl _ _ 24 rfl w.heap.size 3 i0 (.int .i64 0) 1 8 Try.underlying24 hi hz0 hz1 hz2 rfl (by decide) _ _ _ rfl (HO.out.alloc _) ⟨wr.heap.size, 0, none⟩ 1 1 [.int .i64 z] rfl rfl ?c1 ?c2 ?c3 ?c4 ?c5 ?_)
      case c2 => simp [Value.oneCell']
      case c3 => show k + 1 ≤ 9223372036854775807; omega
      case c4 => omega
      case c5 => omega
      intro v' w1 hown hg hnil
      go_wp2_with fail
      go_roundw
      case rel =>
        refine ⟨k + 1, by omega, by go_num, Lib.hid ?_, Lib.hid ?_⟩
        · rw [← ints_take l k (by rw [HN.out]; exact hlt), HZ.out]; exact hown
        · exact (HB.out.alloc hsz _).grown hg (by simp; omega) (fun g hg' => (HO.out.lt g hg').1)
      case measure => simp [intOf]; omega
    · obtain rfl : k = n := by omega
      go_wp2_with fail
      go_ret
      have e : l.take k = l := List.take_of_length_le (by rw [HN.out]; exact Nat.le_refl _)
      have ho := HO.out
      rw [e] at ho
      rcases ho.2 with ⟨rfl, h0⟩ | ⟨g, cap, cur, rfl, _⟩
      · subst h0
        exact ⟨_, _, rfl, ho, HB.out⟩
      · exact ⟨_, _, rfl, ho, HB.out⟩
end Go.Proofs.Ytipppemkcbgecaa
