/- Contracts of stub.Frame, stub.Open and the reference's FramedOf, OpenedOf. -/
import Derived.Test.YtmmgbdeggonbmaaStrB
open Go Go.RowKit
namespace Go.Proofs.Ytmmgbdeggonbmaa
/-- The packet of a text. -/
def packet (s : ByteArray) : ByteArray := ⟨#[36]⟩ ++ s ++ ⟨#[35]⟩ ++ two (bsum s.data.toList)
def frameV (s : ByteArray) : ByteArray := if 60000 < s.size then ⟨#[]⟩ else if marked s.data.toList then ⟨#[]⟩ else packet s
def frameE (s : ByteArray) : Int := if 60000 < s.size then 1 else if marked s.data.toList then 4 else 0
theorem frameV1 {s : ByteArray} (h : 60000 < s.size) : frameV s = ⟨#[]⟩ ∧ frameE s = 1 := ⟨by unfold frameV; rw [if_pos h], by unfold frameE; rw [if_pos h]⟩
theorem frameV2 {s : ByteArray} (h : ¬ 60000 < s.size) (hm : marked s.data.toList = true) : frameV s = ⟨#[]⟩ ∧ frameE s = 4 := ⟨by unfold frameV; rw [if_neg h, hm]; rfl, by unfold frameE; rw [if_neg h, hm]; rfl⟩
theorem frameV3 {s : ByteArray} (h : ¬ 60000 < s.size) (hm : marked s.data.toList = false) : frameV s = packet s ∧ frameE s = 0 := ⟨by unfold frameV; rw [if_neg h, hm]; rfl, by unfold frameE; rw [if_neg h, hm]; rfl⟩
set_option maxRecDepth 100000
theorem frame_any (s : ByteArray) (w : World) (hs : s.size ≤ 9223372036854775807) :
    Calls Try.prog 8 #[.string s] w fun e w' => e = .returned (.tuple #[.string (frameV s), .int .i64 (frameE s)]) ∧ Below w.heap.size w w' := by
  by_cases h1 : 60000 < s.size
  · have hv := Lib.hid (frameV1 h1)
    have h1' : (60000 : Int) < (s.size : Int) := by omega
    go_enter Try.func8, Try.ntmps8
    go_wp2
    go_ret2
    exact ⟨by rw [hv.out.1, hv.out.2]; rfl, Below.refl _ _⟩
  · have h1' : ¬ (60000 : Int) < (s.size : Int) := by omega
    have ht : (two (bsum s.data.toList)).size = 2 := rfl
    cases hmk : marked s.data.toList
    · have hv := Lib.hid (frameV3 h1 hmk)
      go_enter Try.func8, Try.ntmps8
      go_wp2_with (first | (go_at_call 12; refine (containsAny_marks s _ (by omega)).mono ?_; rintro e w1 ⟨rfl, hw1⟩; rw [hmk]) | (go_at_call 19; refine (sum_any s _ (by omega)).mono ?_; rintro e w2 ⟨rfl, hw2⟩))
      go_ret2
      exact ⟨by rw [hv.out.1, hv.out.2]; rfl, below_up' hw1 hw2⟩
    · have hv := Lib.hid (frameV2 h1 hmk)
      go_enter Try.func8, Try.ntmps8
      go_wp2_with (go_at_call 12; refine (containsAny_marks s _ (by omega)).mono ?_; rintro e w1 ⟨rfl, hw1⟩; rw [hmk])
      go_ret2
      exact ⟨by rw [hv.out.1, hv.out.2]; rfl, hw1⟩
theorem framedOf_any (s : ByteArray) (w : World) (hs : s.size ≤ 9223372036854775807) :
    Calls Try.prog 9 #[.string s] w fun e w' => e = .returned (.tuple #[.string (frameV s), .int .i64 (frameE s)]) ∧ Below w.heap.size w w' := by
  by_cases h1 : 60000 < s.size
  · have hv := Lib.hid (frameV1 h1)
    have h1' : (60000 : Int) < (s.size : Int) := by omega
    go_enter Try.func9, Try.ntmps9
    go_wp2
    go_ret2
    exact ⟨by rw [hv.out.1, hv.out.2]; rfl, Below.refl _ _⟩
  · have h1' : ¬ (60000 : Int) < (s.size : Int) := by omega
    have ht : (two (bsum s.data.toList)).size = 2 := rfl
    cases hmk : marked s.data.toList
    · have hv := Lib.hid (frameV3 h1 hmk)
      go_enter Try.func9, Try.ntmps9
      go_wp2_with (first | (go_at_call 20; refine (hasMark_any s _ hs).mono ?_; rintro e w1 ⟨rfl, rfl⟩; rw [hmk]) | (go_at_call 21; refine (twoHex_any s _ hs).mono ?_; rintro e w2 ⟨rfl, hw2⟩))
      go_ret2
      exact ⟨by rw [hv.out.1, hv.out.2]; rfl, hw2⟩
    · have hv := Lib.hid (frameV2 h1 hmk)
      go_enter Try.func9, Try.ntmps9
      go_wp2_with (go_at_call 20; refine (hasMark_any s _ hs).mono ?_; rintro e w1 ⟨rfl, rfl⟩; rw [hmk])
      go_ret2
      exact ⟨by rw [hv.out.1, hv.out.2]; rfl, Below.refl _ _⟩
/-! Opening. -/
/-- The text of a packet that has its signs in place. -/
def inner (p : ByteArray) : ByteArray := p.extract 1 (p.size - 3)
theorem inner_size (p : ByteArray) : (inner p).size = p.size - 3 - 1 := by unfold inner; simp
def formed (p : ByteArray) : Bool := decide (4 ≤ p.size ∧ ((p.get! 0).toNat : Int) = 36 ∧ ((p.get! (p.size - 3)).toNat : Int) = 35 ∧ marked (inner p).data.toList = false)
def summed (p : ByteArray) : Bool := (two (bsum (inner p).data.toList)).toList == (p.extract (p.size - 2) p.size).toList
def openE (p : ByteArray) : Int := if 200 < p.size then 1 else if formed p = false then 4 else if summed p = false then 10 else 0
def openV (p : ByteArray) : ByteArray := if openE p = 0 then inner p else ⟨#[]⟩
theorem open1 {p : ByteArray} (h : 200 < p.size) : openV p = ⟨#[]⟩ ∧ openE p = 1 := by
  have e : openE p = 1 := by unfold openE; rw [if_pos h]
  exact ⟨by unfold openV; rw [if_neg (by omega)], e⟩
theorem open2 {p : ByteArray} (h : ¬ 200 < p.size) (hf : formed p = false) : openV p = ⟨#[]⟩ ∧ openE p = 4 := by
  have e : openE p = 4 := by unfold openE; rw [if_neg h, if_pos hf]
  exact ⟨by unfold openV; rw [if_neg (by omega)], e⟩
theorem open3 {p : ByteArray} (h : ¬ 200 < p.size) (hf : formed p = true) (hs : summed p = false) : openV p = ⟨#[]⟩ ∧ openE p = 10 := by
  have e : openE p = 10 := by unfold openE; rw [if_neg h, if_neg (by rw [hf]; decide), if_pos hs]
  exact ⟨by unfold openV; rw [if_neg (by omega)], e⟩
theorem open4 {p : ByteArray} (h : ¬ 200 < p.size) (hf : formed p = true) (hs : summed p = true) : openV p = inner p ∧ openE p = 0 := by
  have e : openE p = 0 := by unfold openE; rw [if_neg h, if_neg (by rw [hf]; decide), if_neg (by rw [hs]; decide)]
  exact ⟨by unfold openV; rw [if_pos e], e⟩
theorem formed_mk {p : ByteArray} (h4 : 4 ≤ p.size) (h0 : ((p[0]'(by omega)).toNat : Int) = 36) (h3 : ((p[p.size - 3]'(by omega)).toNat : Int) = 35) (hm : marked (inner p).data.toList = false) : formed p = true :=
  decide_eq_true ⟨h4, by rw [get_toNat p 0 (by omega)]; exact h0, by rw [get_toNat p (p.size - 3) (by omega)]; exact h3, hm⟩
theorem formed_short {p : ByteArray} (h4 : ¬ 4 ≤ p.size) : formed p = false := decide_eq_false (fun h => h4 h.1)
theorem formed_0 {p : ByteArray} (h4 : 4 ≤ p.size) (h0 : ((p[0]'(by omega)).toNat : Int) ≠ 36) : formed p = false :=
  decide_eq_false (fun h => h0 (by rw [← get_toNat p 0 (by omega)]; exact h.2.1))
theorem formed_3 {p : ByteArray} (h4 : 4 ≤ p.size) (h3 : ((p[p.size - 3]'(by omega)).toNat : Int) ≠ 35) : formed p = false :=
  decide_eq_false (fun h => h3 (by rw [← get_toNat p (p.size - 3) (by omega)]; exact h.2.2.1))
theorem formed_m {p : ByteArray} (hm : marked (inner p).data.toList = true) : formed p = false :=
  decide_eq_false (fun h => by rw [hm] at h; cases h.2.2.2)
set_option maxHeartbeats 1000000 in
theorem open_long (p : ByteArray) (w : World) (hs : p.size ≤ 9223372036854775807) (h : 200 < p.size) :
    Calls Try.prog 10 #[.string p] w fun e w' => e = .returned (.tuple #[.string ⟨#[]⟩, .int .i64 1]) ∧ Below w.heap.size w w' := by
  have h1 : (200 : Int) < (p.size : Int) := by omega
  go_enter Try.func10, Try.ntmps10
  go_wp2
  go_ret2
  exact ⟨rfl, Below.refl _ _⟩
set_option maxHeartbeats 1000000 in
theorem open_short (p : ByteArray) (w : World) (h : ¬ 4 ≤ p.size) :
    Calls Try.prog 10 #[.string p] w fun e w' => e = .returned (.tuple #[.string ⟨#[]⟩, .int .i64 4]) ∧ Below w.heap.size w w' := by
  have h1 : ¬ (200 : Int) < (p.size : Int) := by omega
  have h2 : (p.size : Int) < 4 := by omega
  go_enter Try.func10, Try.ntmps10
  go_wp2
  go_ret2
  exact ⟨rfl, Below.refl _ _⟩
set_option maxHeartbeats 1000000 in
theorem open_zero (p : ByteArray) (w : World) (h4 : 4 ≤ p.size) (h200 : p.size ≤ 200) (h0 : ((p[0]'(by omega)).toNat : Int) ≠ 36) :
    Calls Try.prog 10 #[.string p] w fun e w' => e = .returned (.tuple #[.string ⟨#[]⟩, .int .i64 4]) ∧ Below w.heap.size w w' := by
  have b0 : ((((p[0]'(by omega)).toNat : Int)) != 36) = true := bne_iff_ne.2 h0
  go_enter Try.func10, Try.ntmps10
  go_wp2
  go_ret2
  exact ⟨rfl, Below.refl _ _⟩
set_option maxHeartbeats 1000000 in
theorem open_three (p : ByteArray) (w : World) (h4 : 4 ≤ p.size) (h200 : p.size ≤ 200) (h0 : ((p[0]'(by omega)).toNat : Int) = 36) (h3 : ((p[p.size - 3]'(by omega)).toNat : Int) ≠ 35) :
    Calls Try.prog 10 #[.string p] w fun e w' => e = .returned (.tuple #[.string ⟨#[]⟩, .int .i64 4]) ∧ Below w.heap.size w w' := by
  have b0 : ((((p[p.size - 3]'(by omega)).toNat : Int)) != 35) = true := bne_iff_ne.2 h3
  go_enter Try.func10, Try.ntmps10
  go_wp2
  go_ret2
  exact ⟨rfl, Below.refl _ _⟩
set_option maxHeartbeats 1000000 in
theorem open_mark (p q : ByteArray) (w : World) (h4 : 4 ≤ p.size) (h200 : p.size ≤ 200) (h0 : ((p[0]'(by omega)).toNat : Int) = 36) (h3 : ((p[p.size - 3]'(by omega)).toNat : Int) = 35) (hq : Hid (p.extract 1 (p.size - 3) = q)) (hq2 : q.size ≤ 200) (hm : marked q.data.toList = true) :
    Calls Try.prog 10 #[.string p] w fun e w' => e = .returned (.tuple #[.string ⟨#[]⟩, .int .i64 4]) ∧ Below w.heap.size w w' := by
  go_enter Try.func10, Try.ntmps10
  go_wp2_with fail
  simp only [hq.out]
  (go_at_call 12; refine (containsAny_marks q _ (by omega)).mono ?_)
  rintro e w1 ⟨rfl, hw1⟩
  rw [hm]
  go_wp2
  go_ret2
  exact ⟨rfl, hw1⟩
set_option maxHeartbeats 1000000 in
theorem open_sum (p q : ByteArray) (w : World) (h4 : 4 ≤ p.size) (h200 : p.size ≤ 200) (h0 : ((p[0]'(by omega)).toNat : Int) = 36) (h3 : ((p[p.size - 3]'(by omega)).toNat : Int) = 35) (hq : Hid (p.extract 1 (p.size - 3) = q)) (hq2 : q.size ≤ 200) (hm : marked q.data.toList = false) (hs : ((two (bsum q.data.toList)).toList == (p.extract (p.size - 2) p.size).toList) = false) :
    Calls Try.prog 10 #[.string p] w fun e w' => e = .returned (.tuple #[.string ⟨#[]⟩, .int .i64 10]) ∧ Below w.heap.size w w' := by
  go_enter Try.func10, Try.ntmps10
  go_wp2_with fail
  simp only [hq.out]
  (go_at_call 12; refine (containsAny_marks q _ (by omega)).mono ?_)
  rintro e w1 ⟨rfl, hw1⟩
  rw [hm]
  go_wp2_with fail
  have x1 : IntKind.i64.wrap ((p.size : Int) - 2) = (p.size : Int) - 2 := IntWalk.i64_in _ (by omega)
  have x2 : 0 ≤ (p.size : Int) - 2 := by omega
  have x3 : ((p.size : Int) - 2).toNat = p.size - 2 := by omega
  have x4 : IntKind.i64.wrap ((p.size : Int) - 3) = (p.size : Int) - 3 := IntWalk.i64_in _ (by omega)
  have x5 : 0 ≤ (p.size : Int) - 3 := by omega
  have x6 : ((p.size : Int) - 3).toNat = p.size - 3 := by omega
  go_region_with (go_at_call 19; refine (sum_any q _ (by omega)).mono ?_; rintro e w2 ⟨rfl, hw2⟩)
  all_goals clear x1 x2 x3 x4 x5 x6
  all_goals go_wp2
  all_goals go_ret2
  all_goals exact ⟨rfl, below_up' hw1 (below_drew' hw2)⟩
set_option maxHeartbeats 1000000 in
theorem open_good (p q : ByteArray) (w : World) (h4 : 4 ≤ p.size) (h200 : p.size ≤ 200) (h0 : ((p[0]'(by omega)).toNat : Int) = 36) (h3 : ((p[p.size - 3]'(by omega)).toNat : Int) = 35) (hq : Hid (p.extract 1 (p.size - 3) = q)) (hq2 : q.size ≤ 200) (hm : marked q.data.toList = false) (hs : ((two (bsum q.data.toList)).toList == (p.extract (p.size - 2) p.size).toList) = true) :
    Calls Try.prog 10 #[.string p] w fun e w' => e = .returned (.tuple #[.string q, .int .i64 0]) ∧ Below w.heap.size w w' := by
  go_enter Try.func10, Try.ntmps10
  go_wp2_with fail
  simp only [hq.out]
  (go_at_call 12; refine (containsAny_marks q _ (by omega)).mono ?_)
  rintro e w1 ⟨rfl, hw1⟩
  rw [hm]
  go_wp2_with fail
  have x1 : IntKind.i64.wrap ((p.size : Int) - 2) = (p.size : Int) - 2 := IntWalk.i64_in _ (by omega)
  have x2 : 0 ≤ (p.size : Int) - 2 := by omega
  have x3 : ((p.size : Int) - 2).toNat = p.size - 2 := by omega
  have x4 : IntKind.i64.wrap ((p.size : Int) - 3) = (p.size : Int) - 3 := IntWalk.i64_in _ (by omega)
  have x5 : 0 ≤ (p.size : Int) - 3 := by omega
  have x6 : ((p.size : Int) - 3).toNat = p.size - 3 := by omega
  go_region_with (go_at_call 19; refine (sum_any q _ (by omega)).mono ?_; rintro e w2 ⟨rfl, hw2⟩)
  all_goals clear x1 x2 x3 x4 x5 x6
  all_goals go_wp2
  all_goals go_ret2
  all_goals exact ⟨rfl, below_up' hw1 (below_drew' hw2)⟩
theorem hasMark_up (s : ByteArray) (w : World) (hs : s.size ≤ 9223372036854775807) :
    Calls Try.prog 20 #[.string s] w fun e w' => e = .returned (.bool (marked s.data.toList)) ∧ Below w.heap.size w w' :=
  (hasMark_any s w hs).mono fun _ _ ⟨h1, h2⟩ => ⟨h1, h2 ▸ Below.refl _ _⟩
set_option maxHeartbeats 1000000 in
theorem opened_long (p : ByteArray) (w : World) (hs : p.size ≤ 9223372036854775807) (h : 200 < p.size) :
    Calls Try.prog 11 #[.string p] w fun e w' => e = .returned (.tuple #[.string ⟨#[]⟩, .int .i64 1]) ∧ Below w.heap.size w w' := by
  have h1 : (200 : Int) < (p.size : Int) := by omega
  go_enter Try.func11, Try.ntmps11
  go_wp2
  go_ret2
  exact ⟨rfl, Below.refl _ _⟩
set_option maxHeartbeats 1000000 in
theorem opened_short (p : ByteArray) (w : World) (h : ¬ 4 ≤ p.size) :
    Calls Try.prog 11 #[.string p] w fun e w' => e = .returned (.tuple #[.string ⟨#[]⟩, .int .i64 4]) ∧ Below w.heap.size w w' := by
  have h1 : ¬ (200 : Int) < (p.size : Int) := by omega
  have h2 : (p.size : Int) < 4 := by omega
  go_enter Try.func11, Try.ntmps11
  go_wp2
  go_ret2
  exact ⟨rfl, Below.refl _ _⟩
set_option maxHeartbeats 1000000 in
theorem opened_zero (p : ByteArray) (w : World) (h4 : 4 ≤ p.size) (h200 : p.size ≤ 200) (h0 : ((p[0]'(by omega)).toNat : Int) ≠ 36) :
    Calls Try.prog 11 #[.string p] w fun e w' => e = .returned (.tuple #[.string ⟨#[]⟩, .int .i64 4]) ∧ Below w.heap.size w w' := by
  have b0 : ((((p[0]'(by omega)).toNat : Int)) != 36) = true := bne_iff_ne.2 h0
  go_enter Try.func11, Try.ntmps11
  go_wp2
  go_ret2
  exact ⟨rfl, Below.refl _ _⟩
set_option maxHeartbeats 1000000 in
theorem opened_three (p : ByteArray) (w : World) (h4 : 4 ≤ p.size) (h200 : p.size ≤ 200) (h0 : ((p[0]'(by omega)).toNat : Int) = 36) (h3 : ((p[p.size - 3]'(by omega)).toNat : Int) ≠ 35) :
    Calls Try.prog 11 #[.string p] w fun e w' => e = .returned (.tuple #[.string ⟨#[]⟩, .int .i64 4]) ∧ Below w.heap.size w w' := by
  have b0 : ((((p[p.size - 3]'(by omega)).toNat : Int)) != 35) = true := bne_iff_ne.2 h3
  go_enter Try.func11, Try.ntmps11
  go_wp2
  go_ret2
  exact ⟨rfl, Below.refl _ _⟩
set_option maxHeartbeats 1000000 in
theorem opened_mark (p q : ByteArray) (w : World) (h4 : 4 ≤ p.size) (h200 : p.size ≤ 200) (h0 : ((p[0]'(by omega)).toNat : Int) = 36) (h3 : ((p[p.size - 3]'(by omega)).toNat : Int) = 35) (hq : Hid (p.extract 1 (p.size - 3) = q)) (hq2 : q.size ≤ 200) (hm : marked q.data.toList = true) :
    Calls Try.prog 11 #[.string p] w fun e w' => e = .returned (.tuple #[.string ⟨#[]⟩, .int .i64 4]) ∧ Below w.heap.size w w' := by
  go_enter Try.func11, Try.ntmps11
  go_wp2_with fail
  simp only [hq.out]
  (go_at_call 20; refine (hasMark_up q _ (by omega)).mono ?_)
  rintro e w1 ⟨rfl, hw1⟩
  rw [hm]
  go_wp2
  go_ret2
  exact ⟨rfl, hw1⟩
set_option maxHeartbeats 1000000 in
theorem opened_sum (p q : ByteArray) (w : World) (h4 : 4 ≤ p.size) (h200 : p.size ≤ 200) (h0 : ((p[0]'(by omega)).toNat : Int) = 36) (h3 : ((p[p.size - 3]'(by omega)).toNat : Int) = 35) (hq : Hid (p.extract 1 (p.size - 3) = q)) (hq2 : q.size ≤ 200) (hm : marked q.data.toList = false) (hs : ((two (bsum q.data.toList)).toList == (p.extract (p.size - 2) p.size).toList) = false) :
    Calls Try.prog 11 #[.string p] w fun e w' => e = .returned (.tuple #[.string ⟨#[]⟩, .int .i64 10]) ∧ Below w.heap.size w w' := by
  go_enter Try.func11, Try.ntmps11
  go_wp2_with fail
  simp only [hq.out]
  (go_at_call 20; refine (hasMark_up q _ (by omega)).mono ?_)
  rintro e w1 ⟨rfl, hw1⟩
  rw [hm]
  go_wp2_with fail
  have x1 : IntKind.i64.wrap ((p.size : Int) - 2) = (p.size : Int) - 2 := IntWalk.i64_in _ (by omega)
  have x2 : 0 ≤ (p.size : Int) - 2 := by omega
  have x3 : ((p.size : Int) - 2).toNat = p.size - 2 := by omega
  have x4 : IntKind.i64.wrap ((p.size : Int) - 3) = (p.size : Int) - 3 := IntWalk.i64_in _ (by omega)
  have x5 : 0 ≤ (p.size : Int) - 3 := by omega
  have x6 : ((p.size : Int) - 3).toNat = p.size - 3 := by omega
  go_region_with (simp only [hq.out]; go_at_call 21; refine (twoHex_any q _ (by omega)).mono ?_; rintro e w2 ⟨rfl, hw2⟩)
  all_goals clear x1 x2 x3 x4 x5 x6
  all_goals go_wp2
  all_goals go_ret2
  all_goals exact ⟨rfl, below_up' hw1 (below_drew' hw2)⟩
set_option maxHeartbeats 1000000 in
theorem opened_good (p q : ByteArray) (w : World) (h4 : 4 ≤ p.size) (h200 : p.size ≤ 200) (h0 : ((p[0]'(by omega)).toNat : Int) = 36) (h3 : ((p[p.size - 3]'(by omega)).toNat : Int) = 35) (hq : Hid (p.extract 1 (p.size - 3) = q)) (hq2 : q.size ≤ 200) (hm : marked q.data.toList = false) (hs : ((two (bsum q.data.toList)).toList == (p.extract (p.size - 2) p.size).toList) = true) :
    Calls Try.prog 11 #[.string p] w fun e w' => e = .returned (.tuple #[.string q, .int .i64 0]) ∧ Below w.heap.size w w' := by
  go_enter Try.func11, Try.ntmps11
  go_wp2_with fail
  simp only [hq.out]
  (go_at_call 20; refine (hasMark_up q _ (by omega)).mono ?_)
  rintro e w1 ⟨rfl, hw1⟩
  rw [hm]
  go_wp2_with fail
  have x1 : IntKind.i64.wrap ((p.size : Int) - 2) = (p.size : Int) - 2 := IntWalk.i64_in _ (by omega)
  have x2 : 0 ≤ (p.size : Int) - 2 := by omega
  have x3 : ((p.size : Int) - 2).toNat = p.size - 2 := by omega
  have x4 : IntKind.i64.wrap ((p.size : Int) - 3) = (p.size : Int) - 3 := IntWalk.i64_in _ (by omega)
  have x5 : 0 ≤ (p.size : Int) - 3 := by omega
  have x6 : ((p.size : Int) - 3).toNat = p.size - 3 := by omega
  go_region_with (simp only [hq.out]; go_at_call 21; refine (twoHex_any q _ (by omega)).mono ?_; rintro e w2 ⟨rfl, hw2⟩)
  all_goals clear x1 x2 x3 x4 x5 x6
  all_goals go_wp2
  all_goals go_ret2
  all_goals exact ⟨by rw [← hq.out]; rfl, below_up' hw1 (below_drew' hw2)⟩
end Go.Proofs.Ytmmgbdeggonbmaa
