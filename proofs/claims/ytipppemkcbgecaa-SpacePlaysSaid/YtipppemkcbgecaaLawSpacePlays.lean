/- space.Play answers what the reference's PlayedOf answers, at every argument. -/
import Derived.Test.YtipppemkcbgecaaRows
import Derived.ProofKit
import Derived.OpenShut
import Derived.ChangeOld
import Derived.Carry
import Derived.Test.YtipppemkcbgecaaRefD
namespace Go.Proofs.Ytipppemkcbgecaa.spacePlays
open Go.ChangeShapes Go.WideShapes Go.ChangeAt Go.RowKit
set_option linter.unusedVariables false

theorem own : ownKnob Try.prog.godebug = none := by kernel_rfl
theorem laidOut : laidOutB Try.prog = true := by kernel_rfl

set_option maxRecDepth 100000
theorem same_nil (w : World) : Calls Try.prog 7 #[.slice none 0 0, .slice none 0 0] w fun e w' => e = .returned (.bool true) ∧ w = w' := by
  go_enter Try.func7, Try.ntmps7
  go_wp2
  go_rounds 1
  go_ret
  exact ⟨rfl, rfl⟩
/-- Both refuse alike. -/
theorem walk_err (n : Int) (v1 v2 : Value) (x : Int) (w : World)
    (hp : Calls Try.prog 5 #[.int .i64 n, v1, v2] w fun e w' => Below w.heap.size w w' ∧ e = .returned (.tuple #[.slice none 0 0, .slice none 0 0, .int .i64 0, .int .i64 x]))
    (hr : ∀ W, Below w.heap.size w W → Calls Try.prog 6 #[.int .i64 n, v1, v2] W fun e w' => Below W.heap.size W w' ∧ e = .returned (.tuple #[.slice none 0 0, .slice none 0 0, .int .i64 0, .int .i64 x])) :
    Calls Try.prog 3 #[.int .i64 n, v1, v2] w fun e w' => e = .returned (.bool true) ∧ Below w.heap.size w w' := by
  have HP := Lib.hid hp
  have HR := Lib.hid hr
  clear hp hr
  go_enter Try.func3, Try.ntmps3
  go_wp2_with (first
    | (
      go_at_call 5
      refine HP.out.mono ?_
      rintro e w1 ⟨hb1, rfl⟩)
    | (
      go_at_call 6
      refine (HR.out _ hb1).mono ?_
      rintro e w2 ⟨hb2, rfl⟩)
    | (
      go_at_call 7
      refine (same_nil _).mono ?_
      rintro e w3 ⟨rfl, rfl⟩))
  go_ret
  exact ⟨rfl, below_up' hb1 hb2⟩
theorem same_own {w1 w2 : World} {lo1 lo2 ga ca gb cb : Nat} {a : List Int} (ha : a.length = 256) (h1 : w1.ownsRow lo1 3 1 (.slice (some ⟨ga, 0, none⟩) 256 ca) 256 (ints a)) (hb : Below w1.heap.size w1 w2) (h2 : w2.ownsRow lo2 3 1 (.slice (some ⟨gb, 0, none⟩) 256 cb) 256 (ints a)) (W : World) (hW : Below w2.heap.size w2 W) :
    Calls Try.prog 7 #[.slice (some ⟨ga, 0, none⟩) 256 ca, .slice (some ⟨gb, 0, none⟩) 256 cb] W fun e w' => e = .returned (.bool true) ∧ Below W.heap.size W w' := by
  have r1 := rd_of_own (own_below (own_below h1 hb) hW)
  have r2 := rd_of_own (own_below h2 hW)
  refine sameInts_eq (fun b => lo1 ≤ b) (fun b => lo2 ≤ b) _ _ a a W ?_ ?_ rfl (by omega)
  · unfold RdI; rw [ha]; exact r1
  · unfold RdI; rw [ha]; exact r2
/-- Both answer alike. -/
theorem walk_ok (n : Int) (v1 v2 : Value) (a b : List Int) (k : Nat) (w : World) (hal : a.length = 256) (hbl : b.length = 256)
    (hp : Calls Try.prog 5 #[.int .i64 n, v1, v2] w fun e w' => Below w.heap.size w w' ∧ ∃ ga gb, e = .returned (.tuple #[.slice (some ⟨ga, 0, none⟩) 256 256, .slice (some ⟨gb, 0, none⟩) 256 256, .int .i64 (k : Nat), .int .i64 0]) ∧
        w'.ownsRow w.heap.size 3 1 (.slice (some ⟨ga, 0, none⟩) 256 256) 256 (ints a) ∧ w'.ownsRow w.heap.size 3 1 (.slice (some ⟨gb, 0, none⟩) 256 256) 256 (ints b))
    (hr : ∀ W, Below w.heap.size w W → Calls Try.prog 6 #[.int .i64 n, v1, v2] W fun e w' => Below W.heap.size W w' ∧ ∃ ga ca gb cb, e = .returned (.tuple #[.slice (some ⟨ga, 0, none⟩) 256 ca, .slice (some ⟨gb, 0, none⟩) 256 cb, .int .i64 (k : Nat), .int .i64 0]) ∧
        w'.ownsRow W.heap.size 3 1 (.slice (some ⟨ga, 0, none⟩) 256 ca) 256 (ints a) ∧ w'.ownsRow W.heap.size 3 1 (.slice (some ⟨gb, 0, none⟩) 256 cb) 256 (ints b)) :
    Calls Try.prog 3 #[.int .i64 n, v1, v2] w fun e w' => e = .returned (.bool true) ∧ Below w.heap.size w w' := by
  have HP := Lib.hid hp
  have HR := Lib.hid hr
  have HA := Lib.hid hal
  have HB := Lib.hid hbl
  clear hp hr hal hbl
  go_enter Try.func3, Try.ntmps3
  go_wp2_with (first
    | (
      go_at_call 5
      refine HP.out.mono ?_
      rintro e w1 ⟨hb1, ga, gb, rfl, oa1, ob1⟩)
    | (
      go_at_call 6
      refine (HR.out _ hb1).mono ?_
      rintro e w2 ⟨hb2, ha, ca, hb, cb, rfl, oa2, ob2⟩)
    | (
      go_at_call_of 7 (Value.slice (some ⟨ga, 0, none⟩) 256 256)
      refine (same_own HA.out oa1 hb2 oa2 _ (Below.refl _ _)).mono ?_
      rintro e w3 ⟨rfl, hb3⟩)
    | (
      go_at_call_of 7 (Value.slice (some ⟨gb, 0, none⟩) 256 256)
      refine (same_own HB.out ob1 hb2 ob2 _ hb3).mono ?_
      rintro e w4 ⟨rfl, hb4⟩))
  go_ret
  exact ⟨rfl, below_up' (below_up' (below_up' hb1 hb2) hb3) hb4⟩
theorem refOf_len {n : Nat} {n1 : Nat} {l1 : List Int} {n2 : Nat} {l2 : List Int} {a b : List Int} {k : Nat} (h : refOf n n1 l1 n2 l2 = .ok (a, b, k)) : a.length = 256 ∧ b.length = 256 := by
  unfold refOf at h
  split at h
  · split at h
    · cases h
    · rename_i a0 has known h0
      obtain ⟨h1, h2, h3⟩ := refA_len n1 a0 has known h0
      split at h
      · cases h
      · rename_i s hs
        cases h
        have := (refB_len (s0 := RB.start a0 has known) ⟨h1, h1, h2, List.length_replicate, List.length_replicate⟩ h3 n2 s hs).1
        exact ⟨this.a, this.b⟩
  · cases h
theorem walk (n : Int) (v1 v2 : Value) (n1 n2 : Nat) (l1 l2 : List Int) (w : World) (h1 : RdF w 2 v1 n1 l1) (h2 : RdF w 3 v2 n2 l2) :
    Calls Try.prog 3 #[.int .i64 n, v1, v2] w fun e w' => e = .returned (.bool true) ∧ Below w.heap.size w w' := by
  by_cases hn : n < 0 ∨ 200 < n
  · exact walk_err n v1 v2 2 w ((play_bad w n hn v1 v2).mono fun e w' h => ⟨h.2, h.1⟩) (fun W _ => (ref_bad W n hn v1 v2).mono fun e w' h => ⟨h.2, h.1⟩)
  · obtain ⟨m, rfl⟩ : ∃ m : Nat, n = m := ⟨n.toNat, by omega⟩
    have hm : m ≤ 200 := by omega
    have hp := play_ok w m hm v1 v2 n1 n2 l1 l2 h1 h2
    have hr := fun (W : World) (hW : Below w.heap.size w W) => ref_ok W m hm v1 v2 n1 n2 l1 l2 (h1.below hW) (h2.below hW)
    rw [playOf_eq] at hp
    cases hres : refOf m n1 l1 n2 l2 with
    | error x =>
      rw [hres] at hp
      simp only [hres] at hr
      exact walk_err m v1 v2 x w hp hr
    | ok t =>
      obtain ⟨a, b, k⟩ := t
      obtain ⟨ha, hb⟩ := refOf_len hres
      rw [hres] at hp
      simp only [hres] at hr
      exact walk_ok m v1 v2 a b k w ha hb hp hr

theorem f2 : Flat Try.prog 34 2 := flat_array Try.underlying34 Try.underlying3 (by kernel_rfl) (by kernel_rfl) (by decide)
theorem f3 : Flat Try.prog 36 3 := flat_array Try.underlying36 Try.underlying3 (by kernel_rfl) (by kernel_rfl) (by decide)
theorem lifted (os : Os) (started : os.Started) (H : Type) (enc : TypeId × Value → H) :
    ReturnsInHanded {} Try.checked os 3 .any (Rows.spacePlaysSpec.pre6 enc Try.prog Try.f3 Rows.spacePlaysRow.domain false) (Rows.spacePlaysSpec.post enc Try.prog Try.f3 false true false false) := by
  refine returnsInHanded_of_change (C := Try.checked) own started (by kernel_rfl) Try.func3
    (ChangeSpec.witness6 (enc := enc) (C := Try.checked) false ⟨#[], #[.int .i64 0, .slice none 0 0, .slice none 0 0], []⟩ 8 (by kernel_rfl) (by kernel_rfl) (by kernel_rfl) (by kernel_rfl)) ?_
  intro W base args ds gs before hval0 hW hcnd _
  have hval : ∀ (j : Nat) t v, Try.f3.params[j]? = some t → args[j]? = some v → Value.okWide Try.prog W .any base t v := hval0
  have hW' := hW
  obtain ⟨p, q, hA0, hV, rfl, hfz, hnd⟩ := hW
  have hA : DataW.TrodAll enc Try.prog W 0 (fun _ => true) true Try.f3.params.toList args.toList ds p := hA0
  rw [Try.params3] at hA hval
  obtain ⟨v0, vs0, d0, ds0, p0, q0, hargs, rfl, rfl, h0, r0⟩ := trodAll_cons hA
  obtain ⟨v1, vs1, d1, ds1, p1, q1, rfl, rfl, rfl, h1, r1⟩ := trodAll_cons r0
  obtain ⟨v2, vs2, d2, ds2, p2, q2, rfl, rfl, rfl, h2, r2⟩ := trodAll_cons r1
  obtain ⟨rfl, rfl, rfl⟩ := trodAll_nil r2
  obtain rfl : args = #[v0, v1, v2] := by cases args; simp_all
  obtain ⟨rfl, rfl⟩ := trodVars_none hV
  obtain ⟨a0, rfl, rfl, rfl, w0⟩ := open_int Try.underlying3 (hval 0 3 v0 rfl rfl) h0
  obtain ⟨n1, l1, hr1, _⟩ := open_flat Try.underlying22 f2 (hval 1 22 v1 rfl rfl) h1
  obtain ⟨n2, l2, hr2, _⟩ := open_flat Try.underlying23 f3 (hval 2 23 v2 rfl rfl) h2
  clear hA0 hval0
  simp only [List.append_nil, List.nil_append] at hW'
  have hlt1 : ∀ x ∈ p1, x.block < W.heap.size := fun x hx => hW'.lt x (by simp [hx])
  have hlt2 : ∀ x ∈ p2, x.block < W.heap.size := fun x hx => hW'.lt x (by simp [hx])
  refine (walk a0 v1 v2 n1 n2 l1 l2 W hr1 hr2).mono fun e W' ⟨he, bel⟩ => ?_
  subst he
  exact ⟨_, rfl, _, _, _, [], _, [], hW', trodAll_mk1 (shut_bool Try.underlying4 _), (trodAll_cons_mk (shut_int Try.underlying3 w0) (trodAll_cons_mk (Below.trod laidOut (by kernel_rfl) (of_decide_eq_true (by kernel_rfl)) h1 bel hlt1) (trodAll_cons_mk (Below.trod laidOut (by kernel_rfl) (of_decide_eq_true (by kernel_rfl)) h2 bel hlt2) trodAll_mk0))), rfl, bel.frame _, fun h => by cases h⟩

theorem over : Rows.spacePlaysRow.holds Try.pinned (OpenSpec.ofChange Rows.spacePlaysSpec) :=
  OpenClaim.holds_of_wide 3 Try.f3 rfl rfl rfl rfl rfl rfl rfl ⟨rfl, rfl, rfl, rfl, rfl⟩ rfl rfl rfl rfl rfl (by kernel_rfl) Try.func3 (by kernel_rfl)
    (of_decide_eq_true (by kernel_rfl)) (by unfold Func.isWrapper; first | (rw [if_pos (by decide +kernel)]; kernel_rfl) | (rw [if_neg (by decide +kernel)]; exact ⟨rfl, rfl⟩))
    (fun os started H enc _ => lifted os started H enc)

theorem proved : Rows.SpacePlaysSaid :=
  over
#print axioms proved
end Go.Proofs.Ytipppemkcbgecaa.spacePlays
