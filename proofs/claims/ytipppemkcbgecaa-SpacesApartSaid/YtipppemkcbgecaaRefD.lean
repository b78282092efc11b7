/- PlayedOf's walk. -/
import Derived.Test.YtipppemkcbgecaaRefC
open Go Go.RowKit
namespace Go.Proofs.Ytipppemkcbgecaa
set_option maxRecDepth 100000
theorem run_make_bools (w : World) : (Instr.makeSlice 54 (.int .i64 16) (.int .i64 16)).run Try.prog w = .ok (.slice (some ⟨w.heap.size, 0, none⟩) 16 16) (w.alloc (.cells (madeCells #[.bool false] 16) 4)) := by kernel_rfl
theorem ref_bad (w : World) (n : Int) (hn : n < 0 ∨ 200 < n) (v1 v2 : Value) :
    Calls Try.prog 6 #[.int .i64 n, v1, v2] w fun e w' => e = .returned (.tuple #[.slice none 0 0, .slice none 0 0, .int .i64 0, .int .i64 2]) ∧ Below w.heap.size w w' := by
  have HIn : Hid (∀ W, Calls Try.prog 17 #[.int .i64 n, .int .i64 0, .int .i64 200] W fun e w' => e = .returned (.bool false) ∧ W = w') := Lib.hid (fun W => (refIn W n 0 200).mono (by
    rintro e w' ⟨rfl, rfl⟩
    refine ⟨?_, rfl⟩
    rcases hn with h | h
    · rw [decide_eq_false (by omega : ¬ (0 : Int) ≤ n)]; rfl
    · rw [decide_eq_false (by omega : ¬ n ≤ (200 : Int)), Bool.and_false]))
  go_enter Try.func6, Try.ntmps6
  go_wp2_with (
    go_at_call 17
    refine (HIn.out _).mono ?_
    rintro e w1 ⟨rfl, rfl⟩)
  refine bodyPost_ret (v := .tuple #[.slice none 0 0, .slice none 0 0, .int .i64 0, .int .i64 2]) ?_ rfl ⟨rfl, Below.refl _ _⟩
  simp [results, Try.results6, go_sem]
/-- The state of the first loop. -/
structure QA (w wr : World) (A S : Nat) (n : Nat) (l : List Int) (k : Nat) (a : List Int) (has : List Bool) (known : Nat) : Prop where
  run : refA n l k = .ok (a, has, known)
  rows : Rws w.heap.size wr [⟨S, 4, 16, bools has⟩, ⟨A, 3, 256, ints a⟩]
  below : Below w.heap.size w wr
theorem in_yes (x : Int) (b : Int) (h : 0 ≤ x ∧ x ≤ b) (W : World) : Calls Try.prog 17 #[.int .i64 x, .int .i64 0, .int .i64 b] W fun e w' => e = .returned (.bool true) ∧ W = w' :=
  (refIn W x 0 b).mono (by
    rintro e w' ⟨rfl, rfl⟩
    exact ⟨by rw [decide_eq_true h.1, decide_eq_true h.2]; rfl, rfl⟩)
theorem in_no (x : Int) (b : Int) (h : ¬ (0 ≤ x ∧ x ≤ b)) (W : World) : Calls Try.prog 17 #[.int .i64 x, .int .i64 0, .int .i64 b] W fun e w' => e = .returned (.bool false) ∧ W = w' :=
  (refIn W x 0 b).mono (by
    rintro e w' ⟨rfl, rfl⟩
    refine ⟨?_, rfl⟩
    by_cases h1 : 0 ≤ x
    · rw [decide_eq_false (fun h2 => h ⟨h1, h2⟩), Bool.and_false]
    · rw [decide_eq_false h1]; rfl)
/-- The state of the second loop. -/
structure QB (w wr : World) (B cb SH O0 O1 T : Nat) (n : Nat) (s0 : RB) (has : List Bool) (l : List Int) (k : Nat) (s : RB) : Prop where
  run : refB n s0 l k = .ok s
  rows : Rws w.heap.size wr [⟨O1, 4, 16, bools s.ob⟩, ⟨O0, 4, 16, bools s.oa⟩, ⟨SH, 4, 16, bools s.sh⟩, ⟨B, 3, cb, ints s.b⟩, ⟨w.heap.size + 1, 4, 16, bools has⟩, ⟨w.heap.size, 3, 256, ints s.a⟩]
  tb : Blk wr T 55 #[.slice (some ⟨O0, 0, none⟩) 16 16, .slice (some ⟨O1, 0, none⟩) 16 16]
  below : Below w.heap.size w wr
theorem refStepB_at {n : Nat} {s : RB} {j : Nat} (hj : j < 256) (v : Int) (who : Bool) : refStepB n s j v who =
    if s.sh.getD (j / 16) false = true then (if s.known = n then .error 7 else .ok ((s.part (j / 16)).put who j v))
    else if (s.own who).getD (j / 16) false = true then .ok (s.put who j v)
    else if s.known = n then .error 7 else .ok ((s.take who (j / 16)).put who j v) := by
  unfold refStepB; rw [if_pos (by omega), show ((j : Int)).toNat = j by omega]
set_option maxHeartbeats 4000000 in
theorem ref_ok (w : World) (n : Nat) (hn : n ≤ 200) (v1 v2 : Value) (n1 n2 : Nat) (l1 l2 : List Int) (h1 : RdF w 2 v1 n1 l1) (h2 : RdF w 3 v2 n2 l2) :
    Calls Try.prog 6 #[.int .i64 n, v1, v2] w (RefPost w (refOf n n1 l1 n2 l2)) := by
  have hmk1 : ∀ w : World, (Instr.makeSlice 24 (.int .i64 256) (.int .i64 256)).run Try.prog w = .ok (.slice (some ⟨w.heap.size, 0, none⟩) 256 256) (w.alloc (.cells (madeCells #[.int .i64 0] 256) 3)) := fun w => run_make_ints w 256 (by decide)
  have hmk2 : ∀ w : World, (Instr.makeSlice 54 (.int .i64 16) (.int .i64 16)).run Try.prog w = .ok (.slice (some ⟨w.heap.size, 0, none⟩) 16 16) (w.alloc (.cells (madeCells #[.bool false] 16) 4)) := run_make_bools
  have H1 := Lib.hid h1
  have H2 := Lib.hid h2
  obtain ⟨A1, c1, rfl, hl1, hc1, hm1, ha1⟩ := h1
  obtain ⟨A2, c2, rfl, hl2, hc2, hm2, ha2⟩ := h2
  have HE : Hid (refOf n n1 l1 n2 l2 = (match refA n l1 n1 with
    | .error e => .error e
    | .ok (a, has, known) => match refB n (RB.start a has known) l2 n2 with
      | .error e => .error e
      | .ok s => .ok (s.a, s.b, s.known))) := Lib.hid (by unfold refOf; rw [if_pos ⟨by omega, by omega⟩, show ((n : Int)).toNat = n by omega]; rfl)
  have hm1' : c1 ≤ 9223372036854775807 := hm1
  have hm2' : c2 ≤ 9223372036854775807 := hm2
  clear hl1 hl2 ha1 ha2
  obtain ⟨res, hres⟩ : ∃ res, refOf n n1 l1 n2 l2 = res := ⟨_, rfl⟩
  rw [hres] at HE ⊢
  clear hres
  have HIn := Lib.hid (in_yes n 200 ⟨by omega, by omega⟩)
  go_enter Try.func6, Try.ntmps6
  go_wp2_with (
    go_at_call 17
    refine (HIn.out _).mono ?_
    rintro e w1 ⟨rfl, rfl⟩)
  have R1 : Rws w.heap.size (w.alloc (.cells (madeCells #[.int .i64 0] 256) 3)) [⟨w.heap.size, 3, 256, ints (List.replicate 256 0)⟩] := by
    refine (Rws.nil _ w).new (by go_grown) ?_ (Nat.le_refl _)
    have := made_own w w.heap.size 3 (.int .i64 0) 256 (Nat.le_refl _) (by decide)
    have e : ints (List.replicate 256 0) = List.replicate 256 (.int .i64 0) := by simp [ints]
    unfold Rw.In
    rw [e, List.length_replicate]
    exact this
  have R2 := R1.new (w' := (w.alloc (.cells (madeCells #[.int .i64 0] 256) 3)).alloc (.cells (madeCells #[.bool false] 16) 4)) (r := ⟨w.heap.size + 1, 4, 16, bools (List.replicate 16 false)⟩) (by go_grown) (by
    have := made_own (w.alloc (.cells (madeCells #[.int .i64 0] 256) 3)) (w.heap.size + 1) 4 (.bool false) 16 (by simp) (by decide)
    have e : bools (List.replicate 16 false) = List.replicate 16 (.bool false) := by simp [bools]
    unfold Rw.In
    rw [e, List.length_replicate]
    simpa using this) (by simp)
  have HQ : Hid (∃ a has, QA w ((w.alloc (.cells (madeCells #[.int .i64 0] 256) 3)).alloc (.cells (madeCells #[.bool false] 16) 4)) w.heap.size (w.heap.size + 1) n l1 0 a has 0) := Lib.hid ⟨_, _, rfl, R2, by go_grown⟩
  clear R1 R2
  go_loopw [12, 13] (fun kn i wr => ∃ k known : Nat, k ≤ n1 ∧ i = .int .i64 k ∧ kn = .int .i64 known ∧ Hid (∃ a has, QA w wr w.heap.size (w.heap.size + 1) n l1 k a has known)) (fun _ i _ => n1 - (intOf i).toNat)
  case atStart => exact ⟨0, 0, Nat.zero_le _, rfl, rfl, HQ⟩
  case round =>
    obtain ⟨k, known, hk, rfl, rfl, HK⟩ := hrel
    clear HQ
    obtain ⟨a, has, PK⟩ := HK.out
    have HP := Lib.hid PK
    obtain ⟨hal, hhl, hkn⟩ := refA_len k a has known PK.run
    have rs := PK.rows.each ⟨w.heap.size + 1, 4, 16, bools has⟩ (by simp)
    have ra := PK.rows.each ⟨w.heap.size, 3, 256, ints a⟩ (by simp)
    have y1 : w.heap.size + 1 < wr.heap.size := rs.lt.2
    have y2 : w.heap.size < wr.heap.size := ra.lt.2
    by_cases hlt : k < n1
    · obtain ⟨A, c, e, hl, hc, hm, ha⟩ := H1.out
      cases e
      obtain ⟨b, o, rfl, hb, hcell⟩ := ha (by omega)
      have x0 := ((bcell PK.below).1 b _ hb).trans (hcell (k * 2) (by omega))
      have x1 := ((bcell PK.below).1 b _ hb).trans (hcell (k * 2 + 1) (by omega))
      have hb1 : b ≠ w.heap.size := by omega
      have hb2 : b ≠ w.heap.size + 1 := by omega
      have hb3 : w.heap.size ≠ b := by omega
      have hb4 : w.heap.size + 1 ≠ b := by omega
      obtain ⟨at_, hat⟩ : ∃ z, l1.getD (k * 2) 0 = z := ⟨_, rfl⟩
      obtain ⟨va, hva⟩ : ∃ z, l1.getD (k * 2 + 1) 0 = z := ⟨_, rfl⟩
      rw [hat] at x0
      rw [hva, ← Nat.add_assoc] at x1
      have HS : Hid (refA n l1 (k + 1) = refStepA n a has known at_ va) := Lib.hid (by simp only [refA]; rw [PK.run]; simp only [hat, hva])
      clear hcell ha hat hva hl hc
      by_cases hin : 0 ≤ at_ ∧ at_ ≤ 255
      · have HI2 := Lib.hid (in_yes at_ 255 hin)
        obtain ⟨j, rfl⟩ : ∃ j : Nat, at_ = j := ⟨at_.toNat, by omega⟩
        have hj : j < 256 := by omega
        have hST : refStepA n a has known j va = if has.getD (j / 16) false = true then .ok (a.set j va, has, known) else if known = n then .error 7 else .ok (a.set j va, has.set (j / 16) true, known + 1) := by
          unfold refStepA; rw [if_pos (by omega), show ((j : Int)).toNat = j by omega]
        have hq : (j : Int) / 16 = ((j / 16 : Nat) : Int) := by omega
        have hq16 : j / 16 < 16 := by omega
        have cS := rs.cell (j / 16) (by show j / 16 < (bools has).length; rw [bools_len, hhl]; exact hq16)
        rw [show (Rw.l ⟨w.heap.size + 1, 4, 16, bools has⟩) = bools has from rfl, bools_at _ _ (by rw [hhl]; exact hq16)] at cS
        have cA := ra.cell j (by show j < (ints a).length; rw [ints_len, hal]; exact hj)
        rw [show (Rw.l ⟨w.heap.size, 3, 256, ints a⟩) = ints a from rfl, ints_getD _ _ (by rw [hal]; exact hj)] at cA
        obtain ⟨u, hu⟩ : ∃ u, a.getD j 0 = u := ⟨_, rfl⟩
        rw [hu] at cA
        have fS := rs.frozen (j / 16)
        have fA := ra.frozen j
        simp only [] at cS cA fS fA
        obtain ⟨q, hqq⟩ : ∃ q, j / 16 = q := ⟨_, rfl⟩
        rw [hqq] at hST hq hq16 cS fS
        clear hu hqq rs ra hin hal hhl
        have HST := Lib.hid (HS.out.trans hST)
        clear hST HS
        by_cases hh1 : has.getD q false = true
        · rw [hh1] at cS
          have HT : Hid (refA n l1 (k + 1) = .ok (a.set j va, has, known)) := Lib.hid (by rw [HST.out, if_pos hh1])
          clear hh1 HST PK
          go_wp2_with (
            go_at_call 17
            refine (HI2.out _).mono ?_
            rintro e w1 ⟨rfl, rfl⟩)
          go_roundw
          case rel =>
            have R := HP.out.rows.set (A := [⟨w.heap.size + 1, 4, 16, bools has⟩]) (r := ⟨w.heap.size, 3, 256, ints a⟩) (B := []) j (.int .i64 va)
            simp only [ints_set] at R
            exact ⟨k + 1, known, by omega, by go_num, rfl, Lib.hid ⟨_, _, HT.out, R, HP.out.below.setCell (by simp) _⟩⟩
          case measure => simp [intOf]; omega
        · have hh2 : has.getD q false = false := by simpa using hh1
          rw [hh2] at cS
          by_cases hu : known = n
          · have HX : Hid (res = .error 7) := Lib.hid (by rw [HE.out, refA_err (HST.out.trans (by rw [if_neg hh1, if_pos hu])) n1 (by omega)])
            subst hu
            clear hh1 hh2 PK HST
            go_wp2_with (
              go_at_call 17
              refine (HI2.out _).mono ?_
              rintro e w1 ⟨rfl, rfl⟩)
            refine bodyPost_ret (v := .tuple #[.slice none 0 0, .slice none 0 0, .int .i64 0, .int .i64 7]) ?_ rfl ⟨HP.out.below, by rw [HX.out]⟩
            simp [results, Try.results6, go_sem]
          · have HT : Hid (refA n l1 (k + 1) = .ok (a.set j va, has.set q true, known + 1)) := Lib.hid (by rw [HST.out, if_neg hh1, if_neg hu])
            have hu1 : ((known : Int) == (n : Int)) = false := beq_eq_false_iff_ne.2 (by omega)
            have hu2 : (known == n) = false := beq_eq_false_iff_ne.2 hu
            have hne1 : w.heap.size + 1 ≠ w.heap.size := by omega
            have hne2 : w.heap.size ≠ w.heap.size + 1 := by omega
            have hkb : (known : Int) + 1 ≤ 9223372036854775807 := by omega
            clear hh1 hh2 PK HST hu hkn
            go_wp2_with (
              go_at_call 17
              refine (HI2.out _).mono ?_
              rintro e w1 ⟨rfl, rfl⟩)
            go_roundw
            case rel =>
              have R0 := HP.out.rows.set (A := []) (r := ⟨w.heap.size + 1, 4, 16, bools has⟩) (B := [⟨w.heap.size, 3, 256, ints a⟩]) q (.bool true)
              have R := Rws.set (A := [⟨w.heap.size + 1, 4, 16, (bools has).set q (.bool true)⟩]) (r := ⟨w.heap.size, 3, 256, ints a⟩) (B := []) R0 j (.int .i64 va)
              simp only [ints_set, bools_set] at R
              exact ⟨k + 1, known + 1, by omega, by go_num, by go_num, Lib.hid ⟨_, _, HT.out, R, (HP.out.below.setCell (by simp) _).setCell (by simp) _⟩⟩
            case measure => simp [intOf]; omega
      · have HI2 := Lib.hid (in_no at_ 255 hin)
        have HX : Hid (res = .error 2) := Lib.hid (by rw [HE.out, refA_err (HS.out.trans (by unfold refStepA; rw [if_neg (by omega)])) n1 (by omega)])
        clear PK
        go_wp2_with (
          go_at_call 17
          refine (HI2.out _).mono ?_
          rintro e w1 ⟨rfl, rfl⟩)
        refine bodyPost_ret (v := .tuple #[.slice none 0 0, .slice none 0 0, .int .i64 0, .int .i64 2]) ?_ rfl ⟨HP.out.below, by rw [HX.out]⟩
        simp [results, Try.results6, go_sem]
    · obtain rfl : k = n1 := by omega
      have HX : Hid (res = (match refB n (RB.start a has known) l2 n2 with
        | .error e => .error e
        | .ok s => .ok (s.a, s.b, s.known))) := Lib.hid (by rw [HE.out, PK.run])
      have HW : Hid (∀ W, Below wr.heap.size wr W → Calls Try.prog 18 #[.slice (some ⟨w.heap.size, 0, none⟩) 256 256] W fun e w' => ∃ g c, e = .returned (.slice (some ⟨g, 0, none⟩) 256 c) ∧ w'.ownsRow W.heap.size 3 1 (.slice (some ⟨g, 0, none⟩) 256 c) 256 (ints a) ∧ Below W.heap.size W w') := Lib.hid (fun W hW => by
        have hr : RdI (fun b => w.heap.size ≤ b) W (.slice (some ⟨w.heap.size, 0, none⟩) 256 256) a := by
          have := rd_of_own (ra.below hW)
          unfold RdI
          simp only [ints_len, hal] at this ⊢
          exact this
        refine (refWords _ _ a W hr (by omega)).mono ?_
        rintro e w' ⟨A, c, rfl, ho, hb⟩
        rw [hal] at ho
        obtain ⟨g, c', hg, _, _⟩ := own_slice ho (by decide)
        rw [hal, hg]
        rw [hg] at ho
        exact ⟨g, c', rfl, ho, hb⟩)
      clear PK rs ra hlt HE
      go_upto_region 20 with (
        go_at_call 18
        refine (HW.out _ (by go_grown)).mono ?_
        rintro e w2 ⟨B, cb, rfl, hob, hb2⟩)
      have z2 := hb2.size
      have R3 := HP.out.rows.new hb2 (r := ⟨B, 3, cb, ints a⟩) (by unfold Rw.In; simp only [ints_len, hal]; exact hob) HP.out.below.size
      have R4 := R3.made (by omega)
      have B4 : Below w.heap.size w (w2.alloc mk16) := (below_up' HP.out.below hb2).alloc (by omega) _
      have zB : B < w2.heap.size := (R3.each ⟨B, 3, cb, ints a⟩ (by simp)).lt.2
      have hz4 : w2.heap.size + 1 = (w2.alloc mk16).heap.size := by simp
      have hza : w.heap.size + 1 < w2.heap.size := by omega
      have HR4 := Lib.hid R4
      have HB4 := Lib.hid B4
      have HZ4 := Lib.hid hz4
      clear R3 R4 B4 hob hb2 HW hz4 z2
      generalize hw4 : w2.alloc mk16 = w4 at *
      clear hw4
      generalize w2.heap.size = SH at *
      go_cut [17] (fun u17 wc => ∃ O0 O1 T, u17 = .pointer (some ⟨T, 0, none⟩) ∧ Hid (Rws w.heap.size wc [⟨O1, 4, 16, bools no16⟩, ⟨O0, 4, 16, bools no16⟩, ⟨SH, 4, 16, bools no16⟩, ⟨B, 3, cb, ints a⟩, ⟨w.heap.size + 1, 4, 16, bools has⟩, ⟨w.heap.size, 3, 256, ints a⟩]) ∧
        Hid (Blk wc T 55 #[.slice (some ⟨O0, 0, none⟩) 16 16, .slice (some ⟨O1, 0, none⟩) 16 16]) ∧ w4.heap.size ≤ T ∧ w4.heap.size ≤ O0 ∧ w4.heap.size ≤ O1 ∧ T ≠ O0 ∧ T ≠ O1 ∧ O0 ≠ O1 ∧ Hid (Below w.heap.size w wc))
      case first =>
        go_region
        all_goals (go_wp2_with fail; go_meet)
        all_goals (have hlo : w.heap.size ≤ w4.heap.size := by have := HZ4.out; omega)
        · exact ⟨w4.heap.size, w4.heap.size + 1, _, rfl, Lib.hid (by have := (((HR4.out.made hlo).made (by simp; omega)).quiet (.cells #[.slice (some ⟨w4.heap.size, 0, none⟩) 16 16, .slice (some ⟨w4.heap.size + 1, 0, none⟩) 16 16] 55)).drew; simpa using this), Lib.hid (by have := (Blk.at_alloc ((w4.alloc mk16).alloc mk16) 55 #[.slice (some ⟨w4.heap.size, 0, none⟩) 16 16, .slice (some ⟨w4.heap.size + 1, 0, none⟩) 16 16]).drew; simpa using this), by omega, by omega, by omega, by omega, by omega, by omega, Lib.hid (by have := HB4.out; go_grown)⟩
        · exact ⟨w4.heap.size, w4.heap.size + 1 + 1, _, rfl, Lib.hid (by have := (((HR4.out.made hlo).quiet (.cells #[.slice (some ⟨w4.heap.size, 0, none⟩) 16 16, .slice (some ⟨w4.heap.size + 1 + 1, 0, none⟩) 16 16] 55)).made (by simp; omega)).drew; simpa using this), Lib.hid (by have := ((Blk.at_alloc (w4.alloc mk16) 55 #[.slice (some ⟨w4.heap.size, 0, none⟩) 16 16, .slice (some ⟨w4.heap.size + 1 + 1, 0, none⟩) 16 16]).alloc mk16).drew; simpa using this), by omega, by omega, by omega, by omega, by omega, by omega, Lib.hid (by have := HB4.out; go_grown)⟩
        · exact ⟨w4.heap.size + 1, w4.heap.size, _, rfl, Lib.hid (by have := (((HR4.out.made hlo).made (by simp; omega)).swap.quiet (.cells #[.slice (some ⟨w4.heap.size + 1, 0, none⟩) 16 16, .slice (some ⟨w4.heap.size, 0, none⟩) 16 16] 55)).drew; simpa using this), Lib.hid (by have := (Blk.at_alloc ((w4.alloc mk16).alloc mk16) 55 #[.slice (some ⟨w4.heap.size + 1, 0, none⟩) 16 16, .slice (some ⟨w4.heap.size, 0, none⟩) 16 16]).drew; simpa using this), by omega, by omega, by omega, by omega, by omega, by omega, Lib.hid (by have := HB4.out; go_grown)⟩
        · exact ⟨w4.heap.size + 1 + 1, w4.heap.size, _, rfl, Lib.hid (by have := (((HR4.out.made hlo).quiet (.cells #[.slice (some ⟨w4.heap.size + 1 + 1, 0, none⟩) 16 16, .slice (some ⟨w4.heap.size, 0, none⟩) 16 16] 55)).made (by simp; omega)).swap.drew; simpa using this), Lib.hid (by have := ((Blk.at_alloc (w4.alloc mk16) 55 #[.slice (some ⟨w4.heap.size + 1 + 1, 0, none⟩) 16 16, .slice (some ⟨w4.heap.size, 0, none⟩) 16 16]).alloc mk16).drew; simpa using this), by omega, by omega, by omega, by omega, by omega, by omega, Lib.hid (by have := HB4.out; go_grown)⟩
        · exact ⟨w4.heap.size + 1, w4.heap.size + 1 + 1, _, rfl, Lib.hid (by have := (((HR4.out.quiet (.cells #[.slice (some ⟨w4.heap.size + 1, 0, none⟩) 16 16, .slice (some ⟨w4.heap.size + 1 + 1, 0, none⟩) 16 16] 55)).made (by simp; omega)).made (by simp; omega)).drew; simpa using this), Lib.hid (by have := (((Blk.at_alloc w4 55 #[.slice (some ⟨w4.heap.size + 1, 0, none⟩) 16 16, .slice (some ⟨w4.heap.size + 1 + 1, 0, none⟩) 16 16]).alloc mk16).alloc mk16).drew; simpa using this), by omega, by omega, by omega, by omega, by omega, by omega, Lib.hid (by have := HB4.out; go_grown)⟩
        · exact ⟨w4.heap.size + 1 + 1, w4.heap.size + 1, _, rfl, Lib.hid (by have := (((HR4.out.quiet (.cells #[.slice (some ⟨w4.heap.size + 1 + 1, 0, none⟩) 16 16, .slice (some ⟨w4.heap.size + 1, 0, none⟩) 16 16] 55)).made (by simp; omega)).made (by simp; omega)).swap.drew; simpa using this), Lib.hid (by have := (((Blk.at_alloc w4 55 #[.slice (some ⟨w4.heap.size + 1 + 1, 0, none⟩) 16 16, .slice (some ⟨w4.heap.size + 1, 0, none⟩) 16 16]).alloc mk16).alloc mk16).drew; simpa using this), by omega, by omega, by omega, by omega, by omega, by omega, Lib.hid (by have := HB4.out; go_grown)⟩
      case rest =>
        obtain ⟨O0, O1, T, rfl, HRR, HT, hT, hO0, hO1, hTO0, hTO1, hOO, HBB⟩ := hcut
        have zs : SH < w4.heap.size := by have := HZ4.out; omega
        have HKB : Hid (known ≤ n) := Lib.hid hkn
        have HLE : Hid (RB.start a has known).Len := Lib.hid ⟨hal, hal, hhl, List.length_replicate, List.length_replicate⟩
        have HHL := Lib.hid hhl
        have HAL := Lib.hid hal
        clear HR4 HB4 HZ4 hal hhl
        have ne1 : T ≠ SH := by omega
        have ne1' : SH ≠ T := by omega
        have ne2 : T ≠ B := by omega
        have ne2' : B ≠ T := by omega
        have ne3 : T ≠ w.heap.size := by omega
        have ne3' : w.heap.size ≠ T := by omega
        have hTO0' : O0 ≠ T := by omega
        have hTO1' : O1 ≠ T := by omega
        have hOO' : O1 ≠ O0 := by omega
        have ne4 : SH ≠ w.heap.size + 1 := by omega
        have ne4' : w.heap.size + 1 ≠ SH := by omega
        clear HIn HK hmk1 hmk2
        go_wp2_with fail
        go_loopw [18] (fun i wr => ∃ k : Nat, k ≤ 16 ∧ i = .int .i64 k ∧ Hid (Rws w.heap.size wr [⟨O1, 4, 16, bools no16⟩, ⟨O0, 4, 16, bools no16⟩, ⟨SH, 4, 16, bools (shUpTo has k)⟩, ⟨B, 3, cb, ints a⟩, ⟨w.heap.size + 1, 4, 16, bools has⟩, ⟨w.heap.size, 3, 256, ints a⟩]) ∧
          Hid (Blk wr T 55 #[.slice (some ⟨O0, 0, none⟩) 16 16, .slice (some ⟨O1, 0, none⟩) 16 16]) ∧ Hid (Below w.heap.size w wr)) (fun i _ => 16 - (intOf i).toNat)
        case atStart => exact ⟨0, by omega, rfl, HRR, HT, HBB⟩
        case round =>
          clear HRR HT HBB
          obtain ⟨k, hk, rfl, HRR, HT, HBB⟩ := hrel
          have rh := HRR.out.each ⟨w.heap.size + 1, 4, 16, bools has⟩ (by simp)
          have rs := HRR.out.each ⟨SH, 4, 16, bools (shUpTo has k)⟩ (by simp)
          have y1 : w.heap.size + 1 < wr.heap.size := rh.lt.2
          have y2 : SH < wr.heap.size := rs.lt.2
          by_cases hlt : k < 16
          · have cH := rh.cell k (by show k < (bools has).length; rw [bools_len, HHL.out]; exact hlt)
            have cS := rs.cell k (by show k < (bools (shUpTo has k)).length; rw [bools_len, shUpTo_len HHL.out hk]; exact hlt)
            rw [show (Rw.l ⟨w.heap.size + 1, 4, 16, bools has⟩) = bools has from rfl, bools_at _ _ (by rw [HHL.out]; exact hlt)] at cH
            rw [show (Rw.l ⟨SH, 4, 16, bools (shUpTo has k)⟩) = bools (shUpTo has k) from rfl, bools_at _ _ (by rw [shUpTo_len HHL.out hk]; exact hlt)] at cS
            have fS := rs.frozen k
            simp only [] at cH cS fS
            obtain ⟨u, hu⟩ : ∃ u, has.getD k false = u := ⟨_, rfl⟩
            obtain ⟨u2, hu2⟩ : ∃ u, (shUpTo has k).getD k false = u := ⟨_, rfl⟩
            rw [hu] at cH
            rw [hu2] at cS
            have HU := Lib.hid hu
            clear hu hu2 rh rs
            go_wp2_with fail
            go_roundw
            case rel =>
              have R := Rws.set (A := [⟨O1, 4, 16, bools no16⟩, ⟨O0, 4, 16, bools no16⟩]) (r := ⟨SH, 4, 16, bools (shUpTo has k)⟩) (B := [⟨B, 3, cb, ints a⟩, ⟨w.heap.size + 1, 4, 16, bools has⟩, ⟨w.heap.size, 3, 256, ints a⟩]) HRR.out k (.bool u)
              simp only [bools_set] at R
              rw [← HU.out, shUpTo_set HHL.out hlt, HU.out] at R
              exact ⟨k + 1, by omega, by go_num, Lib.hid R, Lib.hid (HT.out.other (by simpa using ne1) _), Lib.hid (HBB.out.setCell (by simp; omega) _)⟩
            case measure => simp [intOf]; omega
          · have hk16 : k = 16 := by omega
            have HK16 := Lib.hid hk16
            clear hk16
            obtain ⟨k16, hk16⟩ : ∃ k', k' = k := ⟨_, rfl⟩
            subst hk16
            have esh : shUpTo has k16 = has := by unfold shUpTo; rw [HK16.out, List.take_of_length_le (by rw [HHL.out]; exact Nat.le_refl _)]; simp
            have HQB : Hid (∃ a' b' sh oa ob, QB w wr B cb SH O0 O1 T n (RB.start a has known) has l2 0 ⟨a', b', sh, oa, ob, known⟩) := Lib.hid ⟨a, a, has, no16, no16, rfl, by have := HRR.out; rw [esh] at this; exact this, HT.out, HBB.out⟩
            clear HRR HT HBB rh rs y1 y2 esh
            have HX2 := Lib.hid HX.out
            clear HX
            have ne5 : B ≠ w.heap.size := by have := HQB.out; obtain ⟨_, _, _, _, _, h⟩ := this; have := h.rows.apart; simp at this; omega
            have ne5' : w.heap.size ≠ B := Ne.symm ne5
            have ne6 : SH ≠ B := by omega
            have ne6' : B ≠ SH := by omega
            have ne7 : SH ≠ O0 := by omega
            have ne7' : O0 ≠ SH := by omega
            have ne8 : SH ≠ O1 := by omega
            have ne8' : O1 ≠ SH := by omega
            have ne9 : SH ≠ w.heap.size := by omega
            have ne9' : w.heap.size ≠ SH := by omega
            have ne10 : O0 ≠ B := by omega
            have ne10' : B ≠ O0 := by omega
            have ne11 : O1 ≠ B := by omega
            have ne11' : B ≠ O1 := by omega
            have ne12 : O0 ≠ w.heap.size := by omega
            have ne12' : w.heap.size ≠ O0 := by omega
            have ne13 : O1 ≠ w.heap.size := by omega
            have ne13' : w.heap.size ≠ O1 := by omega
            have hBlow : w.heap.size ≤ B := by obtain ⟨a9, b9, sh9, oa9, ob9, h⟩ := HQB.out; exact (h.rows.each ⟨B, 3, cb, ints b9⟩ (by simp)).lt.1
            have hSlow : w.heap.size ≤ SH := by omega
            have h0low : w.heap.size ≤ O0 := by omega
            have h1low : w.heap.size ≤ O1 := by omega
            go_wp2_with fail
            go_loopw [12, 19] (fun kn i wr => ∃ k kw : Nat, k ≤ n2 ∧ i = .int .i64 k ∧ kn = .int .i64 kw ∧ Hid (∃ a' b' sh oa ob, QB w wr B cb SH O0 O1 T n (RB.start a has known) has l2 k ⟨a', b', sh, oa, ob, kw⟩)) (fun _ i _ => n2 - (intOf i).toNat)
            case atStart => exact ⟨0, known, Nat.zero_le _, rfl, rfl, HQB⟩
            case round =>
              obtain ⟨k, kw, hk, rfl, rfl, HK⟩ := hrel
              clear HQB
              obtain ⟨a', b', sh, oa, ob, PK⟩ := HK.out
              have HP2 := Lib.hid PK
              obtain ⟨⟨hal, hbl, hsl, hoal, hobl⟩, hkn2⟩ := refB_len HLE.out HKB.out k _ PK.run
              simp only [] at hal hbl hsl hoal hobl hkn2
              have rA := PK.rows.each ⟨w.heap.size, 3, 256, ints a'⟩ (by simp)
              have rB := PK.rows.each ⟨B, 3, cb, ints b'⟩ (by simp)
              have rS := PK.rows.each ⟨SH, 4, 16, bools sh⟩ (by simp)
              have r0 := PK.rows.each ⟨O0, 4, 16, bools oa⟩ (by simp)
              have r1 := PK.rows.each ⟨O1, 4, 16, bools ob⟩ (by simp)
              have y1 : w.heap.size < wr.heap.size := rA.lt.2
              have y2 : B < wr.heap.size := rB.lt.2
              have y3 : SH < wr.heap.size := rS.lt.2
              have y4 : O0 < wr.heap.size := r0.lt.2
              have y5 : O1 < wr.heap.size := r1.lt.2
              have y6 : T < wr.heap.size := PK.tb.lt
              by_cases hlt : k < n2
              · obtain ⟨A, c, e, hl, hc, hm, ha⟩ := H2.out
                cases e
                obtain ⟨b, o, rfl, hb, hcell⟩ := ha (by omega)
                have x0 := ((bcell PK.below).1 b _ hb).trans (hcell (k * 3) (by omega))
                have x1 := ((bcell PK.below).1 b _ hb).trans (hcell (k * 3 + 1) (by omega))
                have x2 := ((bcell PK.below).1 b _ hb).trans (hcell (k * 3 + 2) (by omega))
                have q1 : b ≠ w.heap.size := by omega
                have q1' : w.heap.size ≠ b := by omega
                have q2 : b ≠ B := by omega
                have q2' : B ≠ b := by omega
                have q3 : b ≠ SH := by omega
                have q3' : SH ≠ b := by omega
                have q4 : b ≠ O0 := by omega
                have q4' : O0 ≠ b := by omega
                have q5 : b ≠ O1 := by omega
                have q5' : O1 ≠ b := by omega
                have q6 : b ≠ T := by omega
                have q6' : T ≠ b := by omega
                obtain ⟨at_, hat⟩ : ∃ z, l2.getD (k * 3) 0 = z := ⟨_, rfl⟩
                obtain ⟨va, hva⟩ : ∃ z, l2.getD (k * 3 + 1) 0 = z := ⟨_, rfl⟩
                obtain ⟨wh, hwh⟩ : ∃ z, l2.getD (k * 3 + 2) 0 = z := ⟨_, rfl⟩
                rw [hat] at x0
                rw [hva, ← Nat.add_assoc] at x1
                rw [hwh, ← Nat.add_assoc] at x2
                have HS : Hid (refB n (RB.start a has known) l2 (k + 1) = refStepB n ⟨a', b', sh, oa, ob, kw⟩ at_ va (!(wh == 0))) := Lib.hid (by simp only [refB]; rw [PK.run]; simp only [hat, hva, hwh])
                have hkb : (kw : Int) + 1 ≤ 9223372036854775807 := by omega
                clear hcell ha hat hva hwh hl hc
                by_cases hin : 0 ≤ at_ ∧ at_ ≤ 255
                · have HI2 := Lib.hid (in_yes at_ 255 hin)
                  obtain ⟨j, rfl⟩ : ∃ j : Nat, at_ = j := ⟨at_.toNat, by omega⟩
                  have hj : j < 256 := by omega
                  have HST := Lib.hid (HS.out.trans (refStepB_at hj va _))
                  have hq : (j : Int) / 16 = ((j / 16 : Nat) : Int) := by omega
                  have hq16 : j / 16 < 16 := by omega
                  have cA := rA.cell j (by show j < (ints a').length; rw [ints_len, hal]; exact hj)
                  rw [show (Rw.l ⟨w.heap.size, 3, 256, ints a'⟩) = ints a' from rfl, ints_getD _ _ (by rw [hal]; exact hj)] at cA
                  have cB := rB.cell j (by show j < (ints b').length; rw [ints_len, hbl]; exact hj)
                  rw [show (Rw.l ⟨B, 3, cb, ints b'⟩) = ints b' from rfl, ints_getD _ _ (by rw [hbl]; exact hj)] at cB
                  have cS := rS.cell (j / 16) (by show j / 16 < (bools sh).length; rw [bools_len, hsl]; exact hq16)
                  rw [show (Rw.l ⟨SH, 4, 16, bools sh⟩) = bools sh from rfl, bools_at _ _ (by rw [hsl]; exact hq16)] at cS
                  have c0 := r0.cell (j / 16) (by show j / 16 < (bools oa).length; rw [bools_len, hoal]; exact hq16)
                  rw [show (Rw.l ⟨O0, 4, 16, bools oa⟩) = bools oa from rfl, bools_at _ _ (by rw [hoal]; exact hq16)] at c0
                  have c1 := r1.cell (j / 16) (by show j / 16 < (bools ob).length; rw [bools_len, hobl]; exact hq16)
                  rw [show (Rw.l ⟨O1, 4, 16, bools ob⟩) = bools ob from rfl, bools_at _ _ (by rw [hobl]; exact hq16)] at c1
                  have cT0 := PK.tb.cell 0
                  have cT1 := PK.tb.cell 1
                  have fA := rA.frozen j
                  have fB := rB.frozen j
                  have fS := rS.frozen (j / 16)
                  have f0 := r0.frozen (j / 16)
                  have f1 := r1.frozen (j / 16)
                  simp only [] at cA cB cS c0 c1 fA fB fS f0 f1
                  simp at cT0 cT1
                  obtain ⟨u, hu⟩ : ∃ u, a'.getD j 0 = u := ⟨_, rfl⟩
                  rw [hu] at cA
                  clear hu
                  obtain ⟨u2, hu⟩ : ∃ u, b'.getD j 0 = u := ⟨_, rfl⟩
                  rw [hu] at cB
                  clear hu
                  obtain ⟨q, hqq⟩ : ∃ q, j / 16 = q := ⟨_, rfl⟩
                  rw [hqq] at HST hq hq16 cS c0 c1 fS f0 f1
                  clear hqq rA rB rS r0 r1 hin hal hbl hsl hoal hobl HS PK hkn2
                  have hku1 : kw ≠ n → ((kw : Int) == (n : Int)) = false := fun h => beq_eq_false_iff_ne.2 (by omega)
                  have hku2 : kw ≠ n → (kw == n) = false := fun h => beq_eq_false_iff_ne.2 h
                  have HKU1 := Lib.hid hku1
                  have HKU2 := Lib.hid hku2
                  clear hku1 hku2
                  by_cases hw0 : wh = 0
                  · subst hw0
                    have ew : (!((0 : Int) == 0)) = false := rfl
                    rw [ew] at HST
                    clear ew
                    by_cases hsh : sh.getD q false = true
                    · rw [hsh] at cS
                      by_cases hu : kw = n
                      · skip
                        have HY : Hid (res = .error 7) := Lib.hid (by rw [HX2.out, refB_err (HST.out.trans (by rw [if_pos hsh, if_pos hu])) n2 (by omega)])
                        clear HST HKU1 HKU2
                        try clear hsh
                        try clear e3
                        try clear e2
                        subst hu
                        go_wp2_with (
                          go_at_call 17
                          refine (HI2.out _).mono ?_
                          rintro e w1 ⟨rfl, rfl⟩)
                        refine bodyPost_ret (v := .tuple #[.slice none 0 0, .slice none 0 0, .int .i64 0, .int .i64 7]) ?_ rfl ⟨HP2.out.below, by rw [HY.out]⟩
                        simp [results, Try.results6, go_sem]
                      · skip
                        have g1 := HKU1.out hu
                        have g2 := HKU2.out hu
                        have HT2 : Hid (refB n (RB.start a has known) l2 (k + 1) = .ok ⟨a'.set j va, b', sh.set q false, oa.set q true, ob.set q true, kw + 1⟩) := Lib.hid (by rw [HST.out]; rw [if_pos hsh, if_neg hu]; rfl)
                        clear HST HKU1 HKU2
                        try clear hsh
                        try clear e3
                        try clear e2
                        go_wp2_with (
                          go_at_call 17
                          refine (HI2.out _).mono ?_
                          rintro e w1 ⟨rfl, rfl⟩)
                        go_roundw
                        case rel =>
                          have R0 := Rws.set (A := [⟨O1, 4, 16, bools ob⟩, ⟨O0, 4, 16, bools oa⟩]) (r := ⟨SH, 4, 16, bools sh⟩) (B := [⟨B, 3, cb, ints b'⟩, ⟨w.heap.size + 1, 4, 16, bools has⟩, ⟨w.heap.size, 3, 256, ints a'⟩]) HP2.out.rows q (.bool false)
                          have R1 := Rws.set (A := [⟨O1, 4, 16, bools ob⟩]) (r := ⟨O0, 4, 16, bools oa⟩) (B := [⟨SH, 4, 16, (bools sh).set q (.bool false)⟩, ⟨B, 3, cb, ints b'⟩, ⟨w.heap.size + 1, 4, 16, bools has⟩, ⟨w.heap.size, 3, 256, ints a'⟩]) R0 q (.bool true)
                          have R2 := Rws.set (A := []) (r := ⟨O1, 4, 16, bools ob⟩) (B := [⟨O0, 4, 16, (bools oa).set q (.bool true)⟩, ⟨SH, 4, 16, (bools sh).set q (.bool false)⟩, ⟨B, 3, cb, ints b'⟩, ⟨w.heap.size + 1, 4, 16, bools has⟩, ⟨w.heap.size, 3, 256, ints a'⟩]) R1 q (.bool true)
                          have R3 := Rws.set (A := [⟨O1, 4, 16, (bools ob).set q (.bool true)⟩]) (r := ⟨O0, 4, 16, (bools oa).set q (.bool true)⟩) (B := [⟨SH, 4, 16, (bools sh).set q (.bool false)⟩, ⟨B, 3, cb, ints b'⟩, ⟨w.heap.size + 1, 4, 16, bools has⟩, ⟨w.heap.size, 3, 256, ints a'⟩]) R2 q (.bool true)
                          have R4 := Rws.set (A := [⟨O1, 4, 16, (bools ob).set q (.bool true)⟩, ⟨O0, 4, 16, ((bools oa).set q (.bool true)).set q (.bool true)⟩, ⟨SH, 4, 16, (bools sh).set q (.bool false)⟩, ⟨B, 3, cb, ints b'⟩, ⟨w.heap.size + 1, 4, 16, bools has⟩]) (r := ⟨w.heap.size, 3, 256, ints a'⟩) (B := []) R3 j (.int .i64 va)
                          simp only [ints_set, bools_set, List.set_set] at R4
                          exact ⟨k + 1, kw + 1, by omega, by go_num, by go_num, Lib.hid ⟨_, _, _, _, _, HT2.out, R4, (((((HP2.out.tb.other ne1 _).other hTO0 _).other hTO1 _).other hTO0 _).other ne3 _), (((((HP2.out.below.setCell hSlow _).setCell h0low _).setCell h1low _).setCell h0low _).setCell (Nat.le_refl _) _)⟩⟩
                        case measure => simp [intOf]; omega
                    · have hs0 : sh.getD q false = false := by simpa using hsh
                      rw [hs0] at cS
                      clear hs0
                      by_cases e2 : oa.getD q false = true
                      · rw [e2] at c0
                        have e3 : (RB.own ⟨a', b', sh, oa, ob, kw⟩ false).getD q false = true := e2
                        have HT2 : Hid (refB n (RB.start a has known) l2 (k + 1) = .ok ⟨a'.set j va, b', sh, oa, ob, kw⟩) := Lib.hid (by rw [HST.out]; rw [if_neg hsh, if_pos e3]; rfl)
                        clear HST HKU1 HKU2
                        try clear hsh
                        try clear e3
                        try clear e2
                        go_wp2_with (
                          go_at_call 17
                          refine (HI2.out _).mono ?_
                          rintro e w1 ⟨rfl, rfl⟩)
                        go_roundw
                        case rel =>
                          have R0 := Rws.set (A := [⟨O1, 4, 16, bools ob⟩, ⟨O0, 4, 16, bools oa⟩, ⟨SH, 4, 16, bools sh⟩, ⟨B, 3, cb, ints b'⟩, ⟨w.heap.size + 1, 4, 16, bools has⟩]) (r := ⟨w.heap.size, 3, 256, ints a'⟩) (B := []) HP2.out.rows j (.int .i64 va)
                          simp only [ints_set, bools_set, List.set_set] at R0
                          exact ⟨k + 1, kw, by omega, by go_num, rfl, Lib.hid ⟨_, _, _, _, _, HT2.out, R0, (HP2.out.tb.other ne3 _), (HP2.out.below.setCell (Nat.le_refl _) _)⟩⟩
                        case measure => simp [intOf]; omega
                      · have e4 : oa.getD q false = false := by simpa using e2
                        rw [e4] at c0
                        clear e4
                        have e3 : ¬ (RB.own ⟨a', b', sh, oa, ob, kw⟩ false).getD q false = true := e2
                        by_cases hu : kw = n
                        · skip
                          have HY : Hid (res = .error 7) := Lib.hid (by rw [HX2.out, refB_err (HST.out.trans (by rw [if_neg hsh, if_neg e3, if_pos hu])) n2 (by omega)])
                          clear HST HKU1 HKU2
                          try clear hsh
                          try clear e3
                          try clear e2
                          subst hu
                          go_wp2_with (
                            go_at_call 17
                            refine (HI2.out _).mono ?_
                            rintro e w1 ⟨rfl, rfl⟩)
                          refine bodyPost_ret (v := .tuple #[.slice none 0 0, .slice none 0 0, .int .i64 0, .int .i64 7]) ?_ rfl ⟨HP2.out.below, by rw [HY.out]⟩
                          simp [results, Try.results6, go_sem]
                        · skip
                          have g1 := HKU1.out hu
                          have g2 := HKU2.out hu
                          have HT2 : Hid (refB n (RB.start a has known) l2 (k + 1) = .ok ⟨a'.set j va, b', sh, oa.set q true, ob, kw + 1⟩) := Lib.hid (by rw [HST.out]; rw [if_neg hsh, if_neg e3, if_neg hu]; rfl)
                          clear HST HKU1 HKU2
                          try clear hsh
                          try clear e3
                          try clear e2
                          go_wp2_with (
                            go_at_call 17
                            refine (HI2.out _).mono ?_
                            rintro e w1 ⟨rfl, rfl⟩)
                          go_roundw
                          case rel =>
                            have R0 := Rws.set (A := [⟨O1, 4, 16, bools ob⟩]) (r := ⟨O0, 4, 16, bools oa⟩) (B := [⟨SH, 4, 16, bools sh⟩, ⟨B, 3, cb, ints b'⟩, ⟨w.heap.size + 1, 4, 16, bools has⟩, ⟨w.heap.size, 3, 256, ints a'⟩]) HP2.out.rows q (.bool true)
                            have R1 := Rws.set (A := [⟨O1, 4, 16, bools ob⟩, ⟨O0, 4, 16, (bools oa).set q (.bool true)⟩, ⟨SH, 4, 16, bools sh⟩, ⟨B, 3, cb, ints b'⟩, ⟨w.heap.size + 1, 4, 16, bools has⟩]) (r := ⟨w.heap.size, 3, 256, ints a'⟩) (B := []) R0 j (.int .i64 va)
                            simp only [ints_set, bools_set, List.set_set] at R1
                            exact ⟨k + 1, kw + 1, by omega, by go_num, by go_num, Lib.hid ⟨_, _, _, _, _, HT2.out, R1, ((HP2.out.tb.other hTO0 _).other ne3 _), ((HP2.out.below.setCell h0low _).setCell (Nat.le_refl _) _)⟩⟩
                          case measure => simp [intOf]; omega
                  · have ew : (!(wh == 0)) = true := by simp [hw0]
                    rw [ew] at HST
                    clear ew
                    have hwb : (wh == 0) = false := beq_eq_false_iff_ne.2 hw0
                    have hwb2 : (wh != 0) = true := by simp [hw0]
                    clear hw0
                    by_cases hsh : sh.getD q false = true
                    · rw [hsh] at cS
                      by_cases hu : kw = n
                      · skip
                        have HY : Hid (res = .error 7) := Lib.hid (by rw [HX2.out, refB_err (HST.out.trans (by rw [if_pos hsh, if_pos hu])) n2 (by omega)])
                        clear HST HKU1 HKU2
                        try clear hsh
                        try clear e3
                        try clear e2
                        subst hu
                        go_wp2_with (
                          go_at_call 17
                          refine (HI2.out _).mono ?_
                          rintro e w1 ⟨rfl, rfl⟩)
                        refine bodyPost_ret (v := .tuple #[.slice none 0 0, .slice none 0 0, .int .i64 0, .int .i64 7]) ?_ rfl ⟨HP2.out.below, by rw [HY.out]⟩
                        simp [results, Try.results6, go_sem]
                      · skip
                        have g1 := HKU1.out hu
                        have g2 := HKU2.out hu
                        have HT2 : Hid (refB n (RB.start a has known) l2 (k + 1) = .ok ⟨a', b'.set j va, sh.set q false, oa.set q true, ob.set q true, kw + 1⟩) := Lib.hid (by rw [HST.out]; rw [if_pos hsh, if_neg hu]; rfl)
                        clear HST HKU1 HKU2
                        try clear hsh
                        try clear e3
                        try clear e2
                        go_wp2_with (
                          go_at_call 17
                          refine (HI2.out _).mono ?_
                          rintro e w1 ⟨rfl, rfl⟩)
                        go_roundw
                        case rel =>
                          have R0 := Rws.set (A := [⟨O1, 4, 16, bools ob⟩, ⟨O0, 4, 16, bools oa⟩]) (r := ⟨SH, 4, 16, bools sh⟩) (B := [⟨B, 3, cb, ints b'⟩, ⟨w.heap.size + 1, 4, 16, bools has⟩, ⟨w.heap.size, 3, 256, ints a'⟩]) HP2.out.rows q (.bool false)
                          have R1 := Rws.set (A := [⟨O1, 4, 16, bools ob⟩]) (r := ⟨O0, 4, 16, bools oa⟩) (B := [⟨SH, 4, 16, (bools sh).set q (.bool false)⟩, ⟨B, 3, cb, ints b'⟩, ⟨w.heap.size + 1, 4, 16, bools has⟩, ⟨w.heap.size, 3, 256, ints a'⟩]) R0 q (.bool true)
                          have R2 := Rws.set (A := []) (r := ⟨O1, 4, 16, bools ob⟩) (B := [⟨O0, 4, 16, (bools oa).set q (.bool true)⟩, ⟨SH, 4, 16, (bools sh).set q (.bool false)⟩, ⟨B, 3, cb, ints b'⟩, ⟨w.heap.size + 1, 4, 16, bools has⟩, ⟨w.heap.size, 3, 256, ints a'⟩]) R1 q (.bool true)
                          have R3 := Rws.set (A := []) (r := ⟨O1, 4, 16, (bools ob).set q (.bool true)⟩) (B := [⟨O0, 4, 16, (bools oa).set q (.bool true)⟩, ⟨SH, 4, 16, (bools sh).set q (.bool false)⟩, ⟨B, 3, cb, ints b'⟩, ⟨w.heap.size + 1, 4, 16, bools has⟩, ⟨w.heap.size, 3, 256, ints a'⟩]) R2 q (.bool true)
                          have R4 := Rws.set (A := [⟨O1, 4, 16, ((bools ob).set q (.bool true)).set q (.bool true)⟩, ⟨O0, 4, 16, (bools oa).set q (.bool true)⟩, ⟨SH, 4, 16, (bools sh).set q (.bool false)⟩]) (r := ⟨B, 3, cb, ints b'⟩) (B := [⟨w.heap.size + 1, 4, 16, bools has⟩, ⟨w.heap.size, 3, 256, ints a'⟩]) R3 j (.int .i64 va)
                          simp only [ints_set, bools_set, List.set_set] at R4
                          exact ⟨k + 1, kw + 1, by omega, by go_num, by go_num, Lib.hid ⟨_, _, _, _, _, HT2.out, R4, (((((HP2.out.tb.other ne1 _).other hTO0 _).other hTO1 _).other hTO1 _).other ne2 _), (((((HP2.out.below.setCell hSlow _).setCell h0low _).setCell h1low _).setCell h1low _).setCell hBlow _)⟩⟩
                        case measure => simp [intOf]; omega
                    · have hs0 : sh.getD q false = false := by simpa using hsh
                      rw [hs0] at cS
                      clear hs0
                      by_cases e2 : ob.getD q false = true
                      · rw [e2] at c1
                        have e3 : (RB.own ⟨a', b', sh, oa, ob, kw⟩ true).getD q false = true := e2
                        have HT2 : Hid (refB n (RB.start a has known) l2 (k + 1) = .ok ⟨a', b'.set j va, sh, oa, ob, kw⟩) := Lib.hid (by rw [HST.out]; rw [if_neg hsh, if_pos e3]; rfl)
                        clear HST HKU1 HKU2
                        try clear hsh
                        try clear e3
                        try clear e2
                        go_wp2_with (
                          go_at_call 17
                          refine (HI2.out _).mono ?_
                          rintro e w1 ⟨rfl, rfl⟩)
                        go_roundw
                        case rel =>
                          have R0 := Rws.set (A := [⟨O1, 4, 16, bools ob⟩, ⟨O0, 4, 16, bools oa⟩, ⟨SH, 4, 16, bools sh⟩]) (r := ⟨B, 3, cb, ints b'⟩) (B := [⟨w.heap.size + 1, 4, 16, bools has⟩, ⟨w.heap.size, 3, 256, ints a'⟩]) HP2.out.rows j (.int .i64 va)
                          simp only [ints_set, bools_set, List.set_set] at R0
                          exact ⟨k + 1, kw, by omega, by go_num, rfl, Lib.hid ⟨_, _, _, _, _, HT2.out, R0, (HP2.out.tb.other ne2 _), (HP2.out.below.setCell hBlow _)⟩⟩
                        case measure => simp [intOf]; omega
                      · have e4 : ob.getD q false = false := by simpa using e2
                        rw [e4] at c1
                        clear e4
                        have e3 : ¬ (RB.own ⟨a', b', sh, oa, ob, kw⟩ true).getD q false = true := e2
                        by_cases hu : kw = n
                        · skip
                          have HY : Hid (res = .error 7) := Lib.hid (by rw [HX2.out, refB_err (HST.out.trans (by rw [if_neg hsh, if_neg e3, if_pos hu])) n2 (by omega)])
                          clear HST HKU1 HKU2
                          try clear hsh
                          try clear e3
                          try clear e2
                          subst hu
                          go_wp2_with (
                            go_at_call 17
                            refine (HI2.out _).mono ?_
                            rintro e w1 ⟨rfl, rfl⟩)
                          refine bodyPost_ret (v := .tuple #[.slice none 0 0, .slice none 0 0, .int .i64 0, .int .i64 7]) ?_ rfl ⟨HP2.out.below, by rw [HY.out]⟩
                          simp [results, Try.results6, go_sem]
                        · skip
                          have g1 := HKU1.out hu
                          have g2 := HKU2.out hu
                          have HT2 : Hid (refB n (RB.start a has known) l2 (k + 1) = .ok ⟨a', b'.set j va, sh, oa, ob.set q true, kw + 1⟩) := Lib.hid (by rw [HST.out]; rw [if_neg hsh, if_neg e3, if_neg hu]; rfl)
                          clear HST HKU1 HKU2
                          try clear hsh
                          try clear e3
                          try clear e2
                          go_wp2_with (
                            go_at_call 17
                            refine (HI2.out _).mono ?_
                            rintro e w1 ⟨rfl, rfl⟩)
                          go_roundw
                          case rel =>
                            have R0 := Rws.set (A := []) (r := ⟨O1, 4, 16, bools ob⟩) (B := [⟨O0, 4, 16, bools oa⟩, ⟨SH, 4, 16, bools sh⟩, ⟨B, 3, cb, ints b'⟩, ⟨w.heap.size + 1, 4, 16, bools has⟩, ⟨w.heap.size, 3, 256, ints a'⟩]) HP2.out.rows q (.bool true)
                            have R1 := Rws.set (A := [⟨O1, 4, 16, (bools ob).set q (.bool true)⟩, ⟨O0, 4, 16, bools oa⟩, ⟨SH, 4, 16, bools sh⟩]) (r := ⟨B, 3, cb, ints b'⟩) (B := [⟨w.heap.size + 1, 4, 16, bools has⟩, ⟨w.heap.size, 3, 256, ints a'⟩]) R0 j (.int .i64 va)
                            simp only [ints_set, bools_set, List.set_set] at R1
                            exact ⟨k + 1, kw + 1, by omega, by go_num, by go_num, Lib.hid ⟨_, _, _, _, _, HT2.out, R1, ((HP2.out.tb.other hTO1 _).other ne2 _), ((HP2.out.below.setCell h1low _).setCell hBlow _)⟩⟩
                          case measure => simp [intOf]; omega
                · have HI2 := Lib.hid (in_no at_ 255 hin)
                  have HY : Hid (res = .error 2) := Lib.hid (by rw [HX2.out, refB_err (HS.out.trans (by unfold refStepB; rw [if_neg (by omega)])) n2 (by omega)])
                  clear PK
                  go_wp2_with (
                    go_at_call 17
                    refine (HI2.out _).mono ?_
                    rintro e w1 ⟨rfl, rfl⟩)
                  refine bodyPost_ret (v := .tuple #[.slice none 0 0, .slice none 0 0, .int .i64 0, .int .i64 2]) ?_ rfl ⟨HP2.out.below, by rw [HY.out]⟩
                  simp [results, Try.results6, go_sem]
              · obtain rfl : k = n2 := by omega
                have HY : Hid (res = .ok (a', b', kw)) := Lib.hid (by rw [HX2.out, PK.run])
                clear PK
                go_wp2_with fail
                refine bodyPost_ret (v := .tuple #[.slice (some ⟨w.heap.size, 0, none⟩) 256 256, .slice (some ⟨B, 0, none⟩) 256 cb, .int .i64 (kw : Nat), .int .i64 0]) ?_ rfl ⟨HP2.out.below, ?_⟩
                · simp [results, Try.results6, go_sem]
                · rw [HY.out]
                  refine ⟨_, _, _, _, rfl, ?_, ?_⟩
                  · unfold Rw.In at rA; simp only [ints_len, hal] at rA; exact rA
                  · unfold Rw.In at rB; simp only [ints_len, hbl] at rB; exact rB
end Go.Proofs.Ytipppemkcbgecaa
