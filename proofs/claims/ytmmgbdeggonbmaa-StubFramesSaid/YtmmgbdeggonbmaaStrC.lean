/- Contracts of stub.Frame, stub.Open and the reference's FramedOf, OpenedOf. -/
import Derived.Test.YtmmgbdeggonbmaaStrB
open Go Go.RowKit
namespace Go.Proofs.Ytmmgbdeggonbmaa
/-- The packet of a text. -/
def packet (s : ByteArray) : ByteArray := ⟨#[36]⟩ ++ s ++ ⟨#[35]⟩ ++ two (bsum s.data.toList)
def frameV (s : ByteArray) : ByteArray := if 60000 < s.size then ⟨#[]⟩ else if marked s.data.toList then ⟨#[]⟩ else packet s
def frameE (s : ByteArray) : Int := if 60000 < s.size then 1 else if marked s.data.toList then 4 else 0
theorem frameV1 {s : ByteArray} (h : 60000 < s.size) : frameV s = ⟨#[]⟩ ∧ frameE s = 1 := ⟨by unfold frameV; rw [if_pos h], by unfold frameE; rw [if_pos h]⟩
theorem frameV2 {s : ByteArray} (h : ¬ 60000 < s.size) (hm : marked s.data.toList = true) : frameV s = ⟨#[]⟩ ∧ frameE s = 4 := ⟨by unfold frameV; rw [if_neg h, hm]; rfl, by unfold frameE; rw [if_neg h, hm]; rfl⟩
theorem frameV3 {s : ByteArray} (h : ¬ 60000 < s.size) (hm : marked s.data.toList = false) : frameV s = packet s ∧ frameE s = 0 := ⟨by unfold frameV; rw [if_neg h, hm]; rfl, by unfold frameE; rw [if_neg h, hm]; rfl⟩
set_option maxRecDepth 100000
theorem frame_any (s : ByteArray) (w : World) (hs : s.size ≤ 9223372036854775807) :
    Calls Try.prog 8 #[.string s] w fun e w' => e = .returned (.tuple #[.string (frameV s), .int .i64 (frameE s)]) ∧ Below w.heap.size w w' := by
  by_cases h1 : 60000 < s.size
  · have hv := Lib.hid (frameV1 h1)
    have h1' : (60000 : Int) < (s.size : Int) := by omega
    go_enter Try.func8, Try.ntmps8
    go_wp2
    go_ret2
    exact ⟨by rw [hv.out.1, hv.out.2]; rfl, Below.refl _ _⟩
  · have h1' : ¬ (60000 : Int) < (s.size : Int) := by omega
    have ht : (two (bsum s.data.toList)).size = 2 := rfl
    cases hmk : marked s.data.toList
    · have hv := Lib.hid (frameV3 h1 hmk)
      go_enter Try.func8, Try.ntmps8
      go_wp2_with (first | (go_at_call 12; refine (containsAny_marks s _ (by omega)).mono ?_; rintro e w1 ⟨rfl, hw1⟩; rw [hmk]) | (go_at_call 19; refine (sum_any s _ (by omega)).mono ?_; rintro e w2 ⟨rfl, hw2⟩))
      go_ret2
      exact ⟨by rw [hv.out.1, hv.out.2]; rfl, below_up' hw1 hw2⟩
    · have hv := Lib.hid (frameV2 h1 hmk)
      go_enter Try.func8, Try.ntmps8
      go_wp2_with (go_at_call 12; refine (containsAny_marks s _ (by omega)).mono ?_; rintro e w1 ⟨rfl, hw1⟩; rw [hmk])
      go_ret2
      exact ⟨by rw [hv.out.1, hv.out.2]; rfl, hw1⟩
theorem framedOf_any (s : ByteArray) (w : World) (hs : s.size ≤ 9223372036854775807) :
    Calls Try.prog 9 #[.string s] w fun e w' => e = .returned (.tuple #[.string (frameV s), .int .i64 (frameE s)]) ∧ Below w.heap.size w w' := by
  by_cases h1 : 60000 < s.size
  · have hv := Lib.hid (frameV1 h1)
    have h1' : (60000 : Int) < (s.size : Int) := by omega
    go_enter Try.func9, Try.ntmps9
    go_wp2
    go_ret2
    exact ⟨by rw [hv.out.1, hv.out.2]; rfl, Below.refl _ _⟩
  · have h1' : ¬ (60000 : Int) < (s.size : Int) := by omega
    have ht : (two (bsum s.data.toList)).size = 2 := rfl
    cases hmk : marked s.data.toList
    · have hv := Lib.hid (frameV3 h1 hmk)
      go_enter Try.func9, Try.ntmps9
      go_wp2_with (first | (go_at_call 20; refine (hasMark_any s _ hs).mono ?_; rintro e w1 ⟨rfl, rfl⟩; rw [hmk]) | (go_at_call 21; refine (twoHex_any s _ hs).mono ?_; rintro e w2 ⟨rfl, hw2⟩))
      go_ret2
      exact ⟨by rw [hv.out.1, hv.out.2]; rfl, hw2⟩
    · have hv := Lib.hid (frameV2 h1 hmk)
      go_enter Try.func9, Try.ntmps9
      go_wp2_with (go_at_call 20; refine (hasMark_any s _ hs).mono ?_; rintro e w1 ⟨rfl, rfl⟩; rw [hmk])
      go_ret2
      exact ⟨by rw [hv.out.1, hv.out.2]; rfl, Below.refl _ _⟩
/-! Opening. -/
/-- The text of a packet that has its signs in place. -/
def inner (p : ByteArray) : ByteArray := p.extract 1 (p.size - 3)
def formed (p : ByteArray) : Bool := decide (4 ≤ p.size) && (p.get! 0 == 36) && (p.get! (p.size - 3) == 35) && !marked (inner p).data.toList
def summed (p : ByteArray) : Bool := two (bsum (inner p).data.toList) == p.extract (p.size - 2) p.size
def openE (p : ByteArray) : Int := if 200 < p.size then 1 else if formed p = false then 4 else if summed p = false then 10 else 0
def openV (p : ByteArray) : ByteArray := if openE p = 0 then inner p else ⟨#[]⟩
end Go.Proofs.Ytmmgbdeggonbmaa
