/- Contracts of stub.sum and the reference's hex, twoHex, hasMark. -/
import Derived.Test.YtmmgbdeggonbmaaBase
open Go Go.RowKit
namespace Go.Proofs.Ytmmgbdeggonbmaa
theorem digit_at (k : Nat) (h : k < 16) : ((⟨#[48, 49, 50, 51, 52, 53, 54, 55, 56, 57, 97, 98, 99, 100, 101, 102]⟩ : ByteArray)[k]'h) = dg k := by
  rcases k with _|_|_|_|_|_|_|_|_|_|_|_|_|_|_|_|k <;> first | rfl | omega
set_option maxRecDepth 100000
set_option maxHeartbeats 1000000 in
theorem sum_any (s : ByteArray) (w : World) (hs : s.size ≤ 60000) :
    Calls Try.prog 19 #[.string s] w fun e w' => e = .returned (.string (two (bsum s.data.toList))) ∧ Below w.heap.size w w' := by
  go_enter Try.func19, Try.ntmps19
  go_wp2
  go_loop [3, 7] (fun n i => ∃ k : Nat, k ≤ s.size ∧ i = .int .i64 k ∧ n = .int .i64 (bsum (s.data.toList.take k) : Nat)) (fun _ i => s.size - (intOf i).toNat)
  case atStart => exact ⟨0, Nat.zero_le _, rfl, rfl⟩
  case round =>
    obtain ⟨k, hk, rfl, rfl⟩ := hrel
    have hb : bsum (s.data.toList.take k) ≤ 255 * 60000 := Nat.le_trans (bsum_le _) (by have := List.length_take_le k s.data.toList; omega)
    by_cases hlt : k < s.size
    · have hby : (s[k].toNat : Int) < 256 := by have := s[k].toNat_lt; omega
      have HS : Hid (bsum (s.data.toList.take (k + 1)) = bsum (s.data.toList.take k) + s[k].toNat) := by rw [take_snoc s k hlt]; exact bsum_snoc _ _
      go_wp2
      go_round
      case rel => exact ⟨k + 1, by omega, by go_num, by rw [HS.out]; go_num⟩
      case measure => simp [intOf]; omega
    · rw [take_all s k (by omega)] at *
      generalize hbb : bsum s.data.toList = b at *
      obtain ⟨i1, hi1⟩ : ∃ i, b / 16 % 16 = i := ⟨_, rfl⟩
      obtain ⟨i2, hi2⟩ : ∃ i, b % 16 = i := ⟨_, rfl⟩
      have e1 : bits .and .i64 ((b : Int) / 16) 15 = (i1 : Int) := by rw [i64_and15 _ (by omega) (by omega)]; omega
      have e2 : bits .and .i64 (b : Int) 15 = (i2 : Int) := by rw [i64_and15 _ (by omega) (by omega)]; omega
      have h1 : i1 < 16 := by omega
      have h2 : i2 < 16 := by omega
      have HE : Hid (two (bsum s.data.toList) = ⟨#[dg i1, dg i2]⟩) := by show two (bsum s.data.toList) = _; rw [hbb]; unfold two; rw [hi1, hi2]
      clear hi1 hi2 hbb
      have d1 := digit_at i1 h1
      have d2 := digit_at i2 h2
      have hcv := run_two_string (P := Try.prog) 27 5 9 Try.underlying27 Try.underlying5 Try.underlying9 (dg i1) (dg i2) w
      go_wp2_with fail
      go_region
      go_wp2
      go_ret
      exact ⟨by rw [HE.out]; rfl, ((Below.refl _ _).alloc (Nat.le_refl _) _).drew⟩

theorem dg_low (n : Nat) (h : n < 10) : ((dg n).toNat : Int) = 48 + n := by
  rcases n with _|_|_|_|_|_|_|_|_|_|n <;> first | rfl | omega
theorem dg_high (n : Nat) (h : 10 ≤ n) (h' : n < 16) : ((dg n).toNat : Int) = 87 + n := by
  obtain ⟨m, rfl⟩ : ∃ m, n = m + 10 := ⟨n - 10, by omega⟩
  rcases m with _|_|_|_|_|_|m <;> first | rfl | omega
/-- ref.hex. -/
theorem hex_any (n : Nat) (w : World) (h : n < 16) :
    Calls Try.prog 31 #[.int .i64 n] w fun e w' => e = .returned (.int .u8 (dg n).toNat) ∧ w = w' := by
  by_cases h10 : (n : Int) < 10
  · have HE : Hid (((dg n).toNat : Int) = 48 + n) := dg_low n (by omega)
    go_enter Try.func31, Try.ntmps31
    go_wp2
    go_ret
    exact ⟨by rw [HE.out]; go_num, rfl⟩
  · have HE : Hid (((dg n).toNat : Int) = 87 + n) := dg_high n (by omega) h
    go_enter Try.func31, Try.ntmps31
    go_wp2
    go_ret
    exact ⟨by rw [HE.out]; go_num, rfl⟩
theorem isMark_eq (c : UInt8) : isMark c = ((c.toNat : Int) == 36 || (c.toNat : Int) == 35) := by
  unfold isMark
  rw [Bool.eq_iff_iff]
  simp only [Bool.or_eq_true, beq_iff_eq, ← UInt8.toNat_inj]
  show (c.toNat = 36 ∨ c.toNat = 35) ↔ _
  omega
theorem marked_take (s : ByteArray) (k : Nat) (h : k < s.size) : marked (s.data.toList.take (k + 1)) = (marked (s.data.toList.take k) || isMark s[k]) := by
  rw [take_snoc s k h]; simp [marked]
theorem marked_hit (s : ByteArray) (k : Nat) (h : k < s.size) (hm : isMark s[k] = true) : marked s.data.toList = true := by
  unfold marked
  rw [List.any_eq_true]
  exact ⟨s[k], Array.mem_toList_iff.2 (Array.getElem_mem (xs := s.data) h), hm⟩
/-- ref.hasMark. -/
theorem hasMark_any (s : ByteArray) (w : World) (hs : s.size ≤ 9223372036854775807) :
    Calls Try.prog 20 #[.string s] w fun e w' => e = .returned (.bool (marked s.data.toList)) ∧ w = w' := by
  go_enter Try.func20, Try.ntmps20
  go_wp2
  go_loop [3] (fun i => ∃ k : Nat, k ≤ s.size ∧ i = .int .i64 k ∧ marked (s.data.toList.take k) = false) (fun i => s.size - (intOf i).toNat)
  case atStart => exact ⟨0, Nat.zero_le _, rfl, rfl⟩
  case round =>
    obtain ⟨k, hk, rfl, hm⟩ := hrel
    have HM := Lib.hid hm
    clear hm
    by_cases hlt : k < s.size
    · have HT := Lib.hid (marked_take s k hlt)
      have HH := Lib.hid (marked_hit s k hlt)
      have hq := isMark_eq s[k]
      cases h36 : ((s[k].toNat : Int) == 36)
      · cases h35 : ((s[k].toNat : Int) == 35)
        · rw [h36, h35] at hq
          have HQ := Lib.hid hq
          clear hq
          go_wp2
          go_round
          case rel => exact ⟨k + 1, by omega, by go_num, by rw [HT.out, HM.out, HQ.out]; rfl⟩
          case measure => simp [intOf]; omega
        · rw [h36, h35] at hq
          have HE := Lib.hid (HH.out hq)
          clear hq
          go_wp2
          go_ret
          exact ⟨by rw [HE.out]; rfl, rfl⟩
      · rw [h36] at hq
        have HE := Lib.hid (HH.out (by rw [hq]; rfl))
        clear hq
        go_wp2
        go_ret
        exact ⟨by rw [HE.out]; rfl, rfl⟩
    · rw [take_all s k (by omega)] at HM
      go_wp2
      go_ret
      exact ⟨by rw [HM.out]; rfl, rfl⟩
theorem two_mod (n : Nat) : two n = two (n % 256) := by
  unfold two
  rw [show n % 256 / 16 % 16 = n / 16 % 16 by omega, show n % 256 % 16 = n % 16 by omega]
/-- ref.twoHex. -/
theorem twoHex_any (s : ByteArray) (w : World) (hs : s.size ≤ 9223372036854775807) :
    Calls Try.prog 21 #[.string s] w fun e w' => e = .returned (.string (two (bsum s.data.toList))) ∧ Below w.heap.size w w' := by
  go_enter Try.func21, Try.ntmps21
  go_wp2
  go_loop [3, 4] (fun n i => ∃ k b : Nat, k ≤ s.size ∧ i = .int .i64 k ∧ n = .int .i64 b ∧ b < 256 ∧ b = bsum (s.data.toList.take k) % 256) (fun _ i => s.size - (intOf i).toNat)
  case atStart => exact ⟨0, 0, Nat.zero_le _, rfl, rfl, by omega, rfl⟩
  case round =>
    obtain ⟨k, b, hk, rfl, rfl, hb, hbb⟩ := hrel
    have HB := Lib.hid hbb
    clear hbb
    by_cases hlt : k < s.size
    · have hby : (s[k].toNat : Int) < 256 := by have := s[k].toNat_lt; omega
      have HS : Hid (bsum (s.data.toList.take (k + 1)) = bsum (s.data.toList.take k) + s[k].toNat) := by rw [take_snoc s k hlt]; exact bsum_snoc _ _
      go_wp2
      go_round
      case rel => exact ⟨k + 1, (b + s[k].toNat) % 256, by omega, by go_num, by go_num, by omega, by rw [HS.out, HB.out]; omega⟩
      case measure => simp [intOf]; omega
    · rw [take_all s k (by omega)] at HB
      obtain ⟨i1, hi1⟩ : ∃ i, b / 16 = i := ⟨_, rfl⟩
      obtain ⟨i2, hi2⟩ : ∃ i, b % 16 = i := ⟨_, rfl⟩
      have HE : Hid (two (bsum s.data.toList) = ⟨#[dg i1, dg i2]⟩) := by
        show two (bsum s.data.toList) = _
        rw [two_mod, ← HB.out]; unfold two; rw [show b / 16 % 16 = i1 by omega, hi2]
      have e1 : (b : Int) / 16 = (i1 : Int) := by omega
      have e2 : (b : Int) % 16 = (i2 : Int) := by omega
      have h1 : i1 < 16 := by omega
      have h2 : i2 < 16 := by omega
      clear hi1 hi2
      have hcv := run_two_string' (P := Try.prog) 27 5 9 Try.underlying27 Try.underlying5 Try.underlying9 (dg i1) (dg i2) w
      go_wp2_with (first | (go_at_call_of 31 (Value.int IntKind.i64 (i1 : Int)); refine (hex_any i1 _ h1).mono ?_; rintro e w' ⟨rfl, rfl⟩) | (go_at_call_of 31 (Value.int IntKind.i64 (i2 : Int)); refine (hex_any i2 _ h2).mono ?_; rintro e w' ⟨rfl, rfl⟩))
      go_ret
      exact ⟨by rw [HE.out]; rfl, (Below.refl _ _).alloc (Nat.le_refl _) _⟩
end Go.Proofs.Ytmmgbdeggonbmaa
