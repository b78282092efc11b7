/- slices.Clone over slices of one cell an element. -/
import Derived.Test.YtipppemkcbgecaaMem
open Go Go.RowKit
namespace Go.Proofs.Ytipppemkcbgecaa
theorem zrow {e : TypeId} {bytes : Nat} {z : Value} (h : (Try.prog.info? e).map (fun i => (i.zero, i.size, i.bytes)) = some (some z, 1, bytes)) : ∃ i, Try.prog.info? e = some i ∧ i.zero = some z ∧ i.size = 1 ∧ i.bytes = bytes := by
  obtain ⟨i, hi, he⟩ := Option.map_eq_some_iff.1 h
  simp only [Prod.mk.injEq] at he
  exact ⟨i, hi, he.1, he.2.1, he.2.2⟩
set_option maxRecDepth 100000
/-- slices.Clone[[]int,int]: nil stays nil. -/
theorem clone_int_nil (w : World) : Calls Try.prog 9 #[.slice none 0 0] w fun e w' => e = .returned (.slice none 0 0) ∧ w = w' := by
  have hn := Lib.run_eql_slice_nil (P := Try.prog) w 24 3 none 0 0 0 0 Try.underlying24
  go_enter Try.func9, Try.ntmps9
  go_wp2
  go_ret
  exact ⟨rfl, rfl⟩
theorem info_int : (Try.prog.info? 3).map (fun i => (i.zero, i.size, i.bytes)) = some (some (.int .i64 0), 1, 8) := by kernel_rfl
/-- slices.Clone[[]int,int]: a row of the call's own with the same cells. -/
theorem clone_int_at (b o n c : Nat) (l : List Value) (w : World) (hl : l.length = n) (hc : ∀ j x, l[j]? = some x → w.cell? ⟨b, o + j, none⟩ = some x) (h1 : ∀ u ∈ l, u.oneCell' = true) (hb : n * 8 ≤ 140737488355328) :
    Calls Try.prog 9 #[.slice (some ⟨b, o, none⟩) n c] w fun e w' => ∃ g cap, e = .returned (.slice (some ⟨g, 0, none⟩) n cap) ∧ w'.ownsRow w.heap.size 3 1 (.slice (some ⟨g, 0, none⟩) n cap) n l ∧ Below w.heap.size w w' := by
  obtain ⟨i0, hi, hz0, hz1, hz2⟩ := zrow info_int
  have hn := Lib.run_eql_slice_nil (P := Try.prog) w 24 3 (some ⟨b, o, none⟩) n c 0 0 Try.underlying24
  have Hl := Lib.hid hl
  have Hc : Hid (∀ j x, l[j]? = some x → (w.alloc (.cells #[] 3)).cell? ((⟨b, o, none⟩ : Addr).add j) = some x) := fun j x hx => by
    rw [add_at]
    have := hc j x hx
    rw [World.cell?_alloc_lt]
    · exact this
    · exact World.block_lt_of_cell? w _ this
  have H1 := Lib.hid h1
  clear hl hc h1
  go_enter Try.func9, Try.ntmps9
  go_wp2_with (at_builtin; refine wpList_append_own_at _ rfl _ _ 24 rfl w.heap.size 3 i0 _ 1 8 Try.underlying24 hi hz0 hz1 hz2 rfl (by decide) _ 0 [] rfl (World.ownsRow_lit w #[] 0 (Nat.le_refl _) (Nat.zero_le _) rfl) ⟨b, o, none⟩ n c l rfl ?c1 ?c2 ?c3 ?c4 ?c5 ?c6 ?_)
  case c1 => rw [Hl.out]; omega
  case c2 => exact Hc.out
  case c3 => exact H1.out
  case c4 => show 0 + n ≤ 9223372036854775807; omega
  case c5 => omega
  case c6 => simp
  intro v1 w1 hown hg hnil hat
  go_wp2
  go_ret
  have hbel : Below w.heap.size w w1 := ((Below.refl w.heap.size w).alloc (Nat.le_refl _) _).grown hg (by simp) (fun k hk => by simp [Value.ownBlock] at hk; omega)
  rcases hown.2 with ⟨e, _⟩ | ⟨g, cap, cur, e, _⟩
  · exact absurd e hnil
  · subst e
    exact ⟨g, cap, rfl, hown, hbel⟩
/-- slices.Clone[[][]int,[]int]: nil stays nil. -/
theorem clone_rows_nil (w : World) : Calls Try.prog 27 #[.slice none 0 0] w fun e w' => e = .returned (.slice none 0 0) ∧ w = w' := by
  have hn := Lib.run_eql_slice_nil (P := Try.prog) w 38 24 none 0 0 0 0 Try.underlying38
  go_enter Try.func27, Try.ntmps27
  go_wp2
  go_ret
  exact ⟨rfl, rfl⟩
theorem info_rows : (Try.prog.info? 24).map (fun i => (i.zero, i.size, i.bytes)) = some (some (.slice none 0 0), 1, 24) := by kernel_rfl
/-- slices.Clone[[][]int,[]int]: a row of the call's own with the same cells. -/
theorem clone_rows_at (b o n c : Nat) (l : List Value) (w : World) (hl : l.length = n) (hc : ∀ j x, l[j]? = some x → w.cell? ⟨b, o + j, none⟩ = some x) (h1 : ∀ u ∈ l, u.oneCell' = true) (hb : n * 24 ≤ 140737488355328) :
    Calls Try.prog 27 #[.slice (some ⟨b, o, none⟩) n c] w fun e w' => ∃ g cap, e = .returned (.slice (some ⟨g, 0, none⟩) n cap) ∧ w'.ownsRow w.heap.size 24 1 (.slice (some ⟨g, 0, none⟩) n cap) n l ∧ Below w.heap.size w w' := by
  obtain ⟨i0, hi, hz0, hz1, hz2⟩ := zrow info_rows
  have hn := Lib.run_eql_slice_nil (P := Try.prog) w 38 24 (some ⟨b, o, none⟩) n c 0 0 Try.underlying38
  have Hl := Lib.hid hl
  have Hc : Hid (∀ j x, l[j]? = some x → (w.alloc (.cells #[] 24)).cell? ((⟨b, o, none⟩ : Addr).add j) = some x) := fun j x hx => by
    rw [add_at]
    have := hc j x hx
    rw [World.cell?_alloc_lt]
    · exact this
    · exact World.block_lt_of_cell? w _ this
  have H1 := Lib.hid h1
  clear hl hc h1
  go_enter Try.func27, Try.ntmps27
  go_wp2_with (at_builtin; refine wpList_append_own_at _ rfl _ _ 38 rfl w.heap.size 24 i0 _ 1 24 Try.underlying38 hi hz0 hz1 hz2 rfl (by decide) _ 0 [] rfl (World.ownsRow_lit w #[] 0 (Nat.le_refl _) (Nat.zero_le _) rfl) ⟨b, o, none⟩ n c l rfl ?c1 ?c2 ?c3 ?c4 ?c5 ?c6 ?_)
  case c1 => rw [Hl.out]; omega
  case c2 => exact Hc.out
  case c3 => exact H1.out
  case c4 => show 0 + n ≤ 9223372036854775807; omega
  case c5 => omega
  case c6 => simp
  intro v1 w1 hown hg hnil hat
  go_wp2
  go_ret
  have hbel : Below w.heap.size w w1 := ((Below.refl w.heap.size w).alloc (Nat.le_refl _) _).grown hg (by simp) (fun k hk => by simp [Value.ownBlock] at hk; omega)
  rcases hown.2 with ⟨e, _⟩ | ⟨g, cap, cur, e, _⟩
  · exact absurd e hnil
  · subst e
    exact ⟨g, cap, rfl, hown, hbel⟩
theorem one_ints (l : List Int) : ∀ u ∈ ints l, u.oneCell' = true := by
  intro u hu
  simp only [ints, List.mem_map] at hu
  obtain ⟨n, _, rfl⟩ := hu
  rfl
/-- slices.Clone of whatever slice of int, in a world that has grown since it was read. -/
theorem clone_int_rd (p : Nat → Prop) (v : Value) (l : List Int) (w W : World) (h : RdI p w v l) (hb : Below w.heap.size w W) (hl : l.length * 8 ≤ 140737488355328) :
    Calls Try.prog 9 #[v] W fun e w' => ∃ A c, e = .returned (.slice A l.length c) ∧ w'.ownsRow W.heap.size 3 1 (.slice A l.length c) l.length (ints l) ∧ Below W.heap.size W w' := by
  obtain ⟨A, c, rfl, h2, h3, h4, h5, h6, h7⟩ := h.below hb
  rcases A with _ | ⟨b, o, sp⟩
  · obtain ⟨h0, rfl⟩ := h5 rfl
    have hl : l = [] := List.eq_nil_of_length_eq_zero h0
    subst hl
    refine (clone_int_nil W).mono ?_
    rintro e w' ⟨rfl, rfl⟩
    exact ⟨_, _, rfl, ⟨by simp [ints], .inl ⟨rfl, rfl⟩⟩, Below.refl _ _⟩
  · obtain rfl : sp = none := h6 _ rfl
    refine (clone_int_at b o l.length c (ints l) W (ints_len l) (fun j x hx => ?_) (one_ints l) hl).mono ?_
    · have hj : j < l.length := by
        rcases Nat.lt_or_ge j l.length with h | h
        · exact h
        · rw [List.getElem?_eq_none (by rw [ints_len]; exact h)] at hx; cases hx
      obtain ⟨b', o', e, _, hc⟩ := h7 (by omega)
      cases e
      exact hc j x hx
    · rintro e w' ⟨g, cap, rfl, hown, hbel⟩
      exact ⟨_, _, rfl, hown, hbel⟩
end Go.Proofs.Ytipppemkcbgecaa
