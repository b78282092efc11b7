/- strings.ContainsAny(s, "$#") for every s. -/
import Derived.Test.YtmmgbdeggonbmaaStrA
import Derived.Test.YtmmgbdeggonbmaaShelf
import Derived.Test.YtmmgbdeggonbmaaUtf
open Go Go.RowKit
namespace Go.Proofs.Ytmmgbdeggonbmaa
def marks : ByteArray := ⟨#[36, 35]⟩
theorem encode_far (r : Int) (h : 128 ≤ r) (h' : r ≤ 1114111) (hv : Utf8.valid r = true) :
    2 ≤ (Utf8.encode r).size ∧ (Utf8.encode r).size ≤ 4 ∧ ∀ hk : 1 < (Utf8.encode r).size, (Utf8.encode r).size = 2 → 128 ≤ ((Utf8.encode r)[1]'hk).toNat := by
  have h2 : ¬ r.toNat < 128 := by omega
  unfold Utf8.encode
  simp only [hv, if_true, h2, if_false]
  split
  · refine ⟨by show 2 ≤ 2; omega, by show 2 ≤ 4; omega, fun _ _ => ?_⟩
    show 128 ≤ (UInt8.ofNat (0x80 + r.toNat % 64)).toNat
    rw [UInt8.toNat_ofNat']; omega
  · split
    · exact ⟨by show 2 ≤ 3; omega, by show 3 ≤ 4; omega, fun _ e => absurd (show (3 : Nat) = 2 from e) (by decide)⟩
    · exact ⟨by show 2 ≤ 4; omega, by show 4 ≤ 4; omega, fun _ e => absurd (show (4 : Nat) = 2 from e) (by decide)⟩
set_option maxRecDepth 100000
set_option maxHeartbeats 1000000 in
theorem indexRune_far (r : Int) (w : World) (h : 128 ≤ r) (h' : r ≤ 1114111) (hv : Utf8.valid r = true) (hlv : Lib.validRune r = true) (hne : (r == 65533) = false) :
    Calls Try.prog 32 #[.string marks, .int .i32 r] w fun e w' => e = .returned (.int .i64 (-1)) ∧ Below w.heap.size w w' := by
  have h0 : decide (r < 128) = false := decide_eq_false (by omega)
  obtain ⟨hz1, hz2, hz3⟩ := encode_far r h h' hv
  have HZ := Lib.hid hz3
  clear hz3
  go_enter Try.func32, Try.ntmps32
  go_wp2_with (first | (go_at_call 41; refine (Try.utf8_ValidRune _ _).mono ?_; rintro e w' ⟨rfl, hw⟩; rw [hw, hlv]))
  go_step3
  go_wp2
  generalize Utf8.encode r = e at *
  by_cases h2 : e.size = 2
  · obtain ⟨x, hx⟩ : ∃ x, e[1]'(by omega) = x := ⟨_, rfl⟩
    have hx1 : 128 ≤ x.toNat := by rw [← hx]; exact HZ.out _ h2
    have hx2 := x.toNat_lt
    have hsz : (e.size : Int) = 2 := by omega
    have hne1 : ((35 : Int) != (x.toNat : Int)) = true := by simp; omega
    rw [show (e.size : Int) - 1 = 1 by omega]
    have hm1 : marks.size = 2 := rfl
    have hm2 : marks[1]'(by decide) = 35 := rfl
    have hm3 : marks.data.toList = [36, 35] := rfl
    refine wp_loop_once ?_
    go_wp2_with fail
    go_step3
    go_wp2_with fail
    go_quiet (fail)
    obtain ⟨w1, hw1, hb1, hh1⟩ := quiet_name w nq
    rw [← hw1]
    clear hw1 hh1
    go_wp2_with fail
    have hw2 : IntKind.i64.wrap 2 = 2 := by rw [IntKind.wrap_i64]; rfl
    have hw3 : IntKind.i64.wrap (1 + 1) = 2 := by rw [IntKind.wrap_i64]; rfl
    go_quiet ((go_at_call 40; exact Calls.quiet_of_same (Try.strings_IndexByte _ _ _)))
    go_wp2
    simp (config := { zetaDelta := true }) only [Exit.inBlock, Exit.then, Exit.noGoto_ret]
    go_ret
    exact ⟨rfl, hb1.trans (below_drewN _ _ _)⟩
  · have hlast : ¬ ((e.size : Int) - 1 < 2) := by omega
    have hm1 : marks.size = 2 := rfl
    refine wp_loop_once ?_
    go_wp2
    go_ret
    exact ⟨rfl, Below.refl _ _⟩
theorem dec_m0 : Utf8.decode marks 0 = (36, 1) := by decide
theorem dec_m1 : Utf8.decode marks 1 = (35, 1) := by decide
set_option maxRecDepth 100000
set_option maxHeartbeats 1000000 in
theorem indexRune_bad (w : World) :
    Calls Try.prog 32 #[.string marks, .int .i32 65533] w fun e w' => e = .returned (.int .i64 (-1)) ∧ Below w.heap.size w w' := by
  go_enter Try.func32, Try.ntmps32
  go_wp2_with fail
  go_loopg [] 2 (fun g wx => ∃ i : Nat, i + g = 2 ∧ wx = w.iter marks i)
  case atStart => exact ⟨0, by omega, rfl⟩
  case round =>
    obtain ⟨i, hig, rfl⟩ := hrel
    have hm1 : marks.size = 2 := rfl
    cases gk with
    | zero =>
      obtain rfl : i = 2 := by omega
      have hnx := run_next_end (P := Try.prog) w marks 2
      go_wp2
      go_ret
      exact ⟨rfl, (Below.refl _ _).alloc (Nat.le_refl _) _⟩
    | succ g =>
      have hi : i = 0 ∨ i = 1 := by omega
      rcases hi with rfl | rfl
      · have hnx := fun ty => run_next_any (P := Try.prog) w marks 0 ty (by decide)
        rw [dec_m0] at hnx
        go_wp2
        go_roundg g
        case measure => omega
        case rel => exact ⟨1, by omega, rfl⟩
      · have hnx := fun ty => run_next_any (P := Try.prog) w marks 1 ty (by decide)
        rw [dec_m1] at hnx
        go_wp2
        go_roundg g
        case measure => omega
        case rel => exact ⟨2, by omega, rfl⟩
/-- Which mark a rune is. -/
def mk (c : Nat) : Int := if c = 36 then 0 else if c = 35 then 1 else -1
theorem mk_low (c : Nat) (h : c < 128) : Lib.indexByte marks.data.toList ((c : Int)).toNat.toUInt8 = mk c := by
  have e : ((c : Int)).toNat = c := by simp
  rw [e]
  show Lib.indexByte [36, 35] c.toUInt8 = mk c
  have e2 : c.toUInt8.toNat = c := by show c % 256 = c; omega
  have e36 : (36 == c.toUInt8) = (c == 36) := by
    rw [Bool.eq_iff_iff]; simp only [beq_iff_eq, ← UInt8.toNat_inj, e2]; show 36 = c ↔ _; omega
  have e35 : (35 == c.toUInt8) = (c == 35) := by
    rw [Bool.eq_iff_iff]; simp only [beq_iff_eq, ← UInt8.toNat_inj, e2]; show 35 = c ↔ _; omega
  unfold mk
  simp only [Lib.indexByte, e36, e35]
  by_cases h36 : c = 36
  · simp [h36]
  · by_cases h35 : c = 35
    · simp [h35]
    · simp [h36, h35]
theorem validRune_of (c : Nat) (h : Utf8.valid c = true) : Lib.validRune c = true := by
  unfold Utf8.valid at h; unfold Lib.validRune
  simp at h ⊢
  omega
theorem indexRune_marks (c : Nat) (w : World) (h : c ≤ 1114111) (hv : 128 ≤ c → Utf8.valid c = true) :
    Calls Try.prog 32 #[.string marks, .int .i32 c] w fun e w' => e = .returned (.int .i64 (mk c)) ∧ Below w.heap.size w w' := by
  by_cases h0 : c < 128
  · refine (Try.strings_IndexRune_ascii marks c w (by omega) (by omega)).mono ?_
    rintro e w' ⟨rfl, rfl⟩
    exact ⟨by rw [mk_low c h0], Below.refl _ _⟩
  · have hm : mk c = -1 := by unfold mk; rw [if_neg (by omega), if_neg (by omega)]
    by_cases hb : c = 65533
    · subst hb; rw [hm]; exact indexRune_bad w
    · rw [hm]; exact indexRune_far c w (by omega) (by omega) (hv (by omega)) (validRune_of c (hv (by omega))) (by rw [beq_eq_false_iff_ne]; omega)
theorem marked_high (s : ByteArray) (i n : Nat) (hf : i + n ≤ s.size) (hh : ∀ j, i ≤ j → j < i + n → ∀ h : j < s.size, 128 ≤ (s[j]'h).toNat) (hm : marked (s.data.toList.take i) = false) :
    marked (s.data.toList.take (i + n)) = false := by
  induction n with
  | zero => exact hm
  | succ n ih =>
    have h := ih (by omega) (fun j h1 h2 => hh j h1 (by omega))
    rw [show i + (n + 1) = (i + n) + 1 by omega, marked_take s (i + n) (by omega), h, isMark_eq]
    have := hh (i + n) (by omega) (by omega) (by omega)
    simp; omega
set_option maxRecDepth 100000
set_option maxHeartbeats 1000000 in
theorem indexAny_short (s : ByteArray) (w : World) (h8 : s.size ≤ 8) :
    Calls Try.prog 22 #[.string s, .string marks] w fun e w' => (∃ k : Int, e = .returned (.int .i64 k) ∧ decide (0 ≤ k) = marked s.data.toList) ∧ Below w.heap.size w w' := by
  have hemp : marks.toList.isEmpty = false := by rw [Lib.toList_data]; rfl
  have hn1 : ((marks.size : Int) == 1) = false := rfl
  have h8z : decide ((8 : Int) < (s.size : Int)) = false := decide_eq_false (by omega)
  go_enter Try.func22, Try.ntmps22
  go_wp2_with (go_at_call 33; refine (Try.strings_shouldUseASCIISet _ _).mono ?_; rintro e w' ⟨rfl, hw⟩; rw [hw, h8z])
  go_loopg [9, 10] s.size (fun g _ _ wx => ∃ i : Nat, i + g = s.size ∧ wx.heap[w.heap.size]? = some (.stringIter s i) ∧ Below w.heap.size w wx ∧ marked (s.data.toList.take i) = false)
  case atStart => exact ⟨0, by omega, World.iter_heap w s 0, (Below.refl _ _).alloc (Nat.le_refl _) _, rfl⟩
  case round =>
    obtain ⟨i, hig, hit, hbel, hm⟩ := hrel
    have HM := Lib.hid hm
    have HB := Lib.hid hbel
    clear hm hbel
    have HI := Lib.hid hit
    cases gk with
    | zero =>
      obtain rfl : i = s.size := by omega
      have hnx := fun ty => Lib.run_next_end_at (P := Try.prog) wr w.heap.size s s.size ty hit (by omega)
      clear hit
      rw [take_all s s.size (Nat.le_refl _)] at HM
      go_wp2
      go_ret
      exact ⟨⟨-1, rfl, by rw [HM.out]; rfl⟩, HB.out⟩
    | succ g =>
      have hi : i < s.size := by omega
      have hr := rune_at s i hi
      obtain ⟨c, n, hcn⟩ : ∃ c n, Utf8.decode s i = (c, n) := ⟨_, _, rfl⟩
      have hnx := fun ty => Lib.run_next_any_at (P := Try.prog) wr w.heap.size s i ty hit hi
      rw [hcn] at hr hnx
      clear hcn hit
      have HR := Lib.hid hr
      have hc0 : c ≤ 1114111 := by
        rcases Nat.lt_or_ge c 128 with h | h
        · omega
        · exact (hr.high h).1
      have HV : Hid (128 ≤ c → Utf8.valid c = true) := fun h => (hr.high h).2.1
      clear hr
      have hw1 := HI.out
      have HI2 := Lib.hid (Lib.iterAt_heap wr w.heap.size s i (i + n) HI.out)
      have HB2 := Lib.hid (Lib.below_iterAt HB.out (Nat.le_refl _) s (i + n))
      have HS2 := Lib.hid (Lib.iterAt_size wr w.heap.size s (i + n)).symm
      clear hw1
      dsimp only at hnx
      generalize wr.iterAt w.heap.size s (i + n) = w2 at *
      by_cases hneg : 0 ≤ mk c
      · have HE : Hid (marked s.data.toList = true) := by
          have hc : c = 36 ∨ c = 35 := by
            unfold mk at hneg
            split at hneg
            · exact .inl (by assumption)
            · split at hneg
              · exact .inr (by assumption)
              · omega
          have := (HR.out.low (by omega)).2 hi
          exact marked_hit s i hi (by rw [isMark_eq, this]; rcases hc with rfl | rfl <;> rfl)
        have HD : Hid (decide (0 ≤ mk c) = true) := decide_eq_true hneg
        go_wp2_with (go_at_call 32; refine (indexRune_marks c _ hc0 HV.out).mono ?_; rintro e w' ⟨rfl, hw⟩)
        go_ret
        exact ⟨⟨i, rfl, by rw [HE.out]; exact decide_eq_true (by omega)⟩, below_up HB2.out (by rw [← HS2.out]; exact HB.out.size) hw⟩
      · have HE : Hid (marked (s.data.toList.take (i + n)) = false) := by
          rcases Nat.lt_or_ge c 128 with h | h
          · obtain ⟨rfl, hc⟩ := HR.out.low h
            show marked (s.data.toList.take (i + 1)) = false
            rw [marked_take s i hi, HM.out, isMark_eq, hc hi]
            unfold mk at hneg
            simp
            split at hneg
            · omega
            · split at hneg <;> omega
          · exact marked_high s i n HR.out.fits (HR.out.high h).2.2 HM.out
        have hn1 := HR.out.pos
        have hn2 := HR.out.fits
        go_wp2_with (go_at_call 32; refine (indexRune_marks c _ hc0 HV.out).mono ?_; rintro e w' ⟨rfl, hw⟩)
        go_roundg (s.size - (i + n))
        case measure => omega
        case rel => exact ⟨i + n, by omega, by rw [hw.block _ (Array.getElem?_eq_some_iff.1 HI2.out).1]; exact HI2.out, below_up HB2.out (by rw [← HS2.out]; exact HB.out.size) hw, HE.out⟩
/-- The set of the marks: 256 Bools. -/
def markSet : Array Value := Lib.setCells marks.data.toList
theorem markSet_at (x : UInt8) : markSet[x.toNat]? = some (.bool (isMark x)) := by
  unfold markSet
  rw [Lib.setCells_at]
  have hc : ([36, 35] : List UInt8).contains x = isMark x := by simp only [isMark, List.contains, List.elem]; cases x == 36 <;> cases x == 35 <;> rfl
  show some (Value.bool (([36, 35] : List UInt8).contains x)) = _
  rw [hc]
set_option maxRecDepth 100000
set_option maxHeartbeats 1000000 in
theorem indexAny_long (s : ByteArray) (w : World) (h8 : 8 < s.size) (hs : s.size ≤ 9223372036854775807) :
    Calls Try.prog 22 #[.string s, .string marks] w fun e w' => (∃ k : Int, e = .returned (.int .i64 k) ∧ decide (0 ≤ k) = marked s.data.toList) ∧ Below w.heap.size w w' := by
  have hM := Try.strings_makeASCIISet (fun _ => by kernel_rfl) marks w (by decide) (by
    intro j b hb
    have hl : marks.data.toList = [36, 35] := rfl
    rw [hl] at hb
    rcases j with _ | _ | j <;> simp at hb
    · subst hb; decide
    · subst hb; decide)
  have hsz : markSet.size = 256 := Lib.setCells_size _
  have hemp : marks.toList.isEmpty = false := by rw [Lib.toList_data]; rfl
  have hn1 : ((marks.size : Int) == 1) = false := rfl
  have h8z : decide ((8 : Int) < (s.size : Int)) = true := decide_eq_true (by omega)
  have hi : (Try.prog.info? 69).map (·.size) = some markSet.size := by rw [hsz]; kernel_rfl
  have hsc : (storeCells ⟨w.heap.size + 1, 0, none⟩ markSet.toList 0).run Try.prog ((w.alloc (.cells markSet 69)).alloc (.cells (Array.replicate 256 (.bool false)) 69)) = .ok () ((w.alloc (.cells markSet 69)).alloc (.cells markSet 69)) := by
    have := run_storeCells_new (P := Try.prog) (w.alloc (.cells markSet 69)) 69 (Array.replicate 256 (.bool false)) markSet hi (by rw [hsz, Array.size_replicate]) (Lib.setCells_one _)
    simpa using this
  have HC : Hid (∀ x : UInt8, ((w.alloc (.cells markSet 69)).alloc (.cells markSet 69)).cell? ⟨w.heap.size + 1, x.toNat, none⟩ = some (.bool (isMark x))) := fun x => by
    rw [World.cell?_alloc_at _ _ _ _ (by simp), markSet_at]
  have HB : Hid (Below w.heap.size w ((w.alloc (.cells markSet 69)).alloc (.cells markSet 69))) := ((Below.refl _ _).alloc (Nat.le_refl _) _).alloc (by simp) _
  change Calls Try.prog 34 _ w (fun e w' => e = .returned (.tuple #[.agg markSet, .bool true]) ∧ w' = w.alloc (.cells markSet 69)) at hM
  have HM := Lib.hid hM
  clear hM
  generalize markSet = ms at *
  have hzv : ∀ w, (zeroValue 69).run Try.prog w = .ok (.agg (Array.replicate 256 (.bool false))) w := fun _ => by kernel_rfl
  go_enter Try.func22, Try.ntmps22
  go_wp2_with (first | (go_at_call 33; refine (Try.strings_shouldUseASCIISet _ _).mono ?_; rintro e w' ⟨rfl, hw⟩; rw [hw, h8z]) | (go_at_call 34; refine HM.out.mono ?_; rintro e w' ⟨rfl, hw⟩; rw [hw]))
  clear hsc hzv
  go_loop [8] (fun i => ∃ k : Nat, k ≤ s.size ∧ i = .int .i64 k ∧ marked (s.data.toList.take k) = false) (fun i => s.size - (intOf i).toNat)
  case atStart => exact ⟨0, Nat.zero_le _, rfl, rfl⟩
  case round =>
    obtain ⟨k, hk, rfl, hm⟩ := hrel
    have HQ := Lib.hid hm
    clear hm
    by_cases hlt : k < s.size
    · have HT := Lib.hid (marked_take s k hlt)
      have HH := Lib.hid (marked_hit s k hlt)
      obtain ⟨x, hx⟩ : ∃ x, s[k]'hlt = x := ⟨_, rfl⟩
      rw [hx] at HT HH
      have hcx := HC.out x
      cases hin : isMark x
      · rw [hin] at hcx
        go_wp2_with (go_at_call 35; refine (Try.asciiSet_contains _ x _ _ hcx).mono ?_; rintro e w' ⟨rfl, hw⟩; rw [hw])
        go_round
        case rel => exact ⟨k + 1, by omega, by go_num, by rw [HT.out, HQ.out, hin]; rfl⟩
        case measure => simp [intOf]; omega
      · rw [hin] at hcx
        have HE := Lib.hid (HH.out hin)
        go_wp2_with (go_at_call 35; refine (Try.asciiSet_contains _ x _ _ hcx).mono ?_; rintro e w' ⟨rfl, hw⟩; rw [hw])
        go_ret
        exact ⟨⟨k, rfl, by rw [HE.out]; exact decide_eq_true (by omega)⟩, HB.out⟩
    · rw [take_all s k (by omega)] at HQ
      go_wp2
      go_ret
      exact ⟨⟨-1, rfl, by rw [HQ.out]; rfl⟩, HB.out⟩
theorem indexAny_marks (s : ByteArray) (w : World) (hs : s.size ≤ 9223372036854775807) :
    Calls Try.prog 22 #[.string s, .string marks] w fun e w' => (∃ k : Int, e = .returned (.int .i64 k) ∧ decide (0 ≤ k) = marked s.data.toList) ∧ Below w.heap.size w w' := by
  by_cases h8 : s.size ≤ 8
  · exact indexAny_short s w h8
  · exact indexAny_long s w (by omega) hs
set_option maxRecDepth 100000
/-- strings.ContainsAny(s, "$#"). -/
theorem containsAny_marks (s : ByteArray) (w : World) (hs : s.size ≤ 9223372036854775807) :
    Calls Try.prog 12 #[.string s, .string marks] w fun e w' => e = .returned (.bool (marked s.data.toList)) ∧ Below w.heap.size w w' := by
  go_enter Try.func12, Try.ntmps12
  go_wp2_with (go_at_call 22; refine (indexAny_marks s _ hs).mono ?_; rintro e w' ⟨⟨k, rfl, hk⟩, hw⟩)
  go_ret
  exact ⟨by rw [← hk]; rfl, hw⟩
end Go.Proofs.Ytmmgbdeggonbmaa
