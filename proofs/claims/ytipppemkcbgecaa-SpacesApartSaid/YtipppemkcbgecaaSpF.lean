/- (*Space).Fork. -/
import Derived.Test.YtipppemkcbgecaaSpE
open Go Go.RowKit
namespace Go.Proofs.Ytipppemkcbgecaa
theorem list16 : ∀ (pg : List Int), pg.length = 16 → ∃ p0 p1 p2 p3 p4 p5 p6 p7 p8 p9 p10 p11 p12 p13 p14 p15, pg = [p0, p1, p2, p3, p4, p5, p6, p7, p8, p9, p10, p11, p12, p13, p14, p15]
  | [p0, p1, p2, p3, p4, p5, p6, p7, p8, p9, p10, p11, p12, p13, p14, p15], _ => ⟨p0, p1, p2, p3, p4, p5, p6, p7, p8, p9, p10, p11, p12, p13, p14, p15, rfl⟩
/-- One more space knows the frames of the first k pages. -/
def Fr.shareN (f : Fr) (pg : List Int) : Nat → Fr
  | 0 => f
  | k + 1 => if pg.getD k 0 < 0 then f.shareN pg k else (f.shareN pg k).setRef (pg.getD k 0).toNat ((f.shareN pg k).refs.getD (pg.getD k 0).toNat 0 + 1)
theorem Fr.shareN_len (f : Fr) (pg : List Int) : ∀ k, (f.shareN pg k).refs.length = f.refs.length
  | 0 => rfl
  | k + 1 => by
    have := f.shareN_len pg k
    simp only [Fr.shareN]
    split
    · exact this
    · simp [Fr.setRef, this]
theorem Fr.shareN_data (f : Fr) (pg : List Int) : ∀ k, (f.shareN pg k).data = f.data
  | 0 => rfl
  | k + 1 => by
    have := f.shareN_data pg k
    simp only [Fr.shareN]
    split
    · exact this
    · exact this
/-- Counts grow, by one a page at most. -/
theorem Fr.shareN_refs (f : Fr) (pg : List Int) (i : Nat) (hi : i < f.refs.length) : ∀ k, f.refs.getD i 0 ≤ (f.shareN pg k).refs.getD i 0 ∧ (f.shareN pg k).refs.getD i 0 ≤ f.refs.getD i 0 + k
  | 0 => by simp [Fr.shareN]
  | k + 1 => by
    have := f.shareN_refs pg i hi k
    simp only [Fr.shareN]
    split
    · omega
    · have e : ((f.shareN pg k).setRef (pg.getD k 0).toNat ((f.shareN pg k).refs.getD (pg.getD k 0).toNat 0 + 1)).refs.getD i 0 = if (pg.getD k 0).toNat = i then (f.shareN pg k).refs.getD (pg.getD k 0).toNat 0 + 1 else (f.shareN pg k).refs.getD i 0 :=
        getD_set' (f.shareN pg k).refs _ i _ 0 (by rw [f.shareN_len]; exact hi)
      rw [e]
      split
      · rename_i e2; rw [e2]; omega
      · omega
theorem Fr.Ok.shareN {f : Fr} (h : f.Ok) {pg : List Int} (hp : PgOk f pg) (hlow : ∀ i, i < f.refs.length → f.refs.getD i 0 + 16 ≤ 200) : ∀ k, k ≤ 16 → (f.shareN pg k).Ok
  | 0, _ => h
  | k + 1, hk => by
    have ih := h.shareN hp hlow k (by omega)
    simp only [Fr.shareN]
    split
    · exact ih
    · rcases hp k (by omega) with h1 | ⟨h1, h2, h3⟩
      · omega
      · have hr := f.shareN_refs pg _ h2 k
        have hl := hlow _ h2
        have h0 := (h.refs _ h2).1
        exact ih.setRef _ _ (by omega) (by omega) (by omega)
set_option maxRecDepth 100000
theorem idx_pages (pg : List Int) (hl : pg.length = 16) (k : Nat) (hk : k < 16) (w : World) : (Instr.index 56 (.agg (ints pg).toArray) (.int .i64 k)).run Try.prog w = .ok (.int .i64 (pg.getD k 0)) w := by
  obtain ⟨p0, p1, p2, p3, p4, p5, p6, p7, p8, p9, p10, p11, p12, p13, p14, p15, rfl⟩ := list16 pg hl
  rcases (show k = 0 ∨ k = 1 ∨ k = 2 ∨ k = 3 ∨ k = 4 ∨ k = 5 ∨ k = 6 ∨ k = 7 ∨ k = 8 ∨ k = 9 ∨ k = 10 ∨ k = 11 ∨ k = 12 ∨ k = 13 ∨ k = 14 ∨ k = 15 by omega) with rfl | rfl | rfl | rfl | rfl | rfl | rfl | rfl | rfl | rfl | rfl | rfl | rfl | rfl | rfl | rfl
  all_goals kernel_rfl
theorem frShare (p : Nat → Prop) (v : Value) (f : Fr) (w : World) (n : Nat) (h : RdFr p w v f) (hok : f.Ok) (hn : n < f.refs.length) (hne : f.refs.getD n 0 ≠ 0) (hlt : f.refs.getD n 0 < 200) :
    Calls Try.prog 21 #[v, .int .i64 n] w fun e w' => ∃ A na ca B nb cb, e = .returned (.tuple #[.agg #[.slice A na ca, .slice B nb cb], .int .i64 0]) ∧ RdFr (fun b => w.heap.size ≤ b) w' (.agg #[.slice A na ca, .slice B nb cb]) (f.setRef n (f.refs.getD n 0 + 1)) ∧ Below w.heap.size w w' := by
  refine (frShare_ok p v f w n h hok hn hne hlt).mono ?_
  rintro e w' ⟨v', rfl, hr, hb⟩
  obtain ⟨bd, od, cd, br, or_, cr, rows, rfl, _⟩ := id hr
  exact ⟨_, _, _, _, _, _, rfl, hr, hb⟩
set_option maxHeartbeats 4000000 in
theorem spFork (M : Nat → Prop) (w : World) (s h : Nat) (d r : Value) (f : Fr) (pg : List Int) (fl : Int) (HH : Ho M w h d r f) (HS : Sp w s h pg fl) (hp : PgOk f pg) (hM : ∀ b, M b → b < w.heap.size) (hs : M s) (hne : s ≠ h) (hlow : ∀ i, i < f.refs.length → f.refs.getD i 0 + 16 ≤ 200) :
    Calls Try.prog 15 #[.pointer (some ⟨s, 0, none⟩)] w fun e w' => e = .returned (.tuple #[.pointer (some ⟨w.heap.size, 0, none⟩), .int .i64 0]) ∧ Sp w' w.heap.size h pg 0 ∧ (∃ d' r', Ho (fun b => M b ∨ b = w.heap.size) w' h d' r' (f.shareN pg 16)) ∧ Upd (fun b => b = h) w w' := by
  have hhost := HS.host
  have KS := Lib.hid HS
  have KH := Lib.hid HH
  have HP := Lib.hid hp
  have KM := Lib.hid hM
  have HL := Lib.hid hlow
  have z1 : s < w.heap.size := HS.lt
  have z2 : h < w.heap.size := HH.blk.lt
  obtain ⟨p0, p1, p2, p3, p4, p5, p6, p7, p8, p9, p10, p11, p12, p13, p14, p15, hpg⟩ := list16 pg HS.len
  have e0 := KS.out.page 0 (by decide)
  have e1 := KS.out.page 1 (by decide)
  have e2 := KS.out.page 2 (by decide)
  have e3 := KS.out.page 3 (by decide)
  have e4 := KS.out.page 4 (by decide)
  have e5 := KS.out.page 5 (by decide)
  have e6 := KS.out.page 6 (by decide)
  have e7 := KS.out.page 7 (by decide)
  have e8 := KS.out.page 8 (by decide)
  have e9 := KS.out.page 9 (by decide)
  have e10 := KS.out.page 10 (by decide)
  have e11 := KS.out.page 11 (by decide)
  have e12 := KS.out.page 12 (by decide)
  have e13 := KS.out.page 13 (by decide)
  have e14 := KS.out.page 14 (by decide)
  have e15 := KS.out.page 15 (by decide)
  rw [hpg] at e0
  simp at e0
  rw [hpg] at e1
  simp at e1
  rw [hpg] at e2
  simp at e2
  rw [hpg] at e3
  simp at e3
  rw [hpg] at e4
  simp at e4
  rw [hpg] at e5
  simp at e5
  rw [hpg] at e6
  simp at e6
  rw [hpg] at e7
  simp at e7
  rw [hpg] at e8
  simp at e8
  rw [hpg] at e9
  simp at e9
  rw [hpg] at e10
  simp at e10
  rw [hpg] at e11
  simp at e11
  rw [hpg] at e12
  simp at e12
  rw [hpg] at e13
  simp at e13
  rw [hpg] at e14
  simp at e14
  rw [hpg] at e15
  simp at e15
  have HPG := Lib.hid hpg
  clear HH HS hp hM hlow hpg
  go_enter Try.func15, Try.ntmps15
  go_wp2_with fail
  go_region
  go_wp2_with fail
  have HIX : Hid (∀ k, k < 16 → ∀ W : World, (Instr.index 56 (.agg #[.int .i64 p0, .int .i64 p1, .int .i64 p2, .int .i64 p3, .int .i64 p4, .int .i64 p5, .int .i64 p6, .int .i64 p7, .int .i64 p8, .int .i64 p9, .int .i64 p10, .int .i64 p11, .int .i64 p12, .int .i64 p13, .int .i64 p14, .int .i64 p15]) (.int .i64 (k : Nat))).run Try.prog W = .ok (.int .i64 (pg.getD k 0)) W) := Lib.hid (fun k hk W => by
    have := idx_pages [p0, p1, p2, p3, p4, p5, p6, p7, p8, p9, p10, p11, p12, p13, p14, p15] rfl k hk W
    rw [HPG.out]
    exact this)
  have A1 : Hid (Sp (w.alloc (.cells #[.pointer (some ⟨h, 0, none⟩), .int .i64 p0, .int .i64 p1, .int .i64 p2, .int .i64 p3, .int .i64 p4, .int .i64 p5, .int .i64 p6, .int .i64 p7, .int .i64 p8, .int .i64 p9, .int .i64 p10, .int .i64 p11, .int .i64 p12, .int .i64 p13, .int .i64 p14, .int .i64 p15, .int .i64 0] 58)).drew w.heap.size h pg 0) := Lib.hid (by
    rw [HPG.out]
    exact ⟨(Blk.at_alloc w _ _).drew, rfl⟩)
  have A2 : Hid (∃ d' r', Ho (fun b => M b ∨ b = w.heap.size) (w.alloc (.cells #[.pointer (some ⟨h, 0, none⟩), .int .i64 p0, .int .i64 p1, .int .i64 p2, .int .i64 p3, .int .i64 p4, .int .i64 p5, .int .i64 p6, .int .i64 p7, .int .i64 p8, .int .i64 p9, .int .i64 p10, .int .i64 p11, .int .i64 p12, .int .i64 p13, .int .i64 p14, .int .i64 p15, .int .i64 0] 58)).drew h d' r' (f.shareN pg 0)) :=
    Lib.hid ⟨d, r, (KH.out.more (N := fun b => M b ∨ b = w.heap.size) (fun b hb hl => hb.elim (fun x => x) (fun e => by omega)) (.inl KH.out.mem)).quiet _⟩
  have A3 : Hid (Upd (fun b => b = h) w (w.alloc (.cells #[.pointer (some ⟨h, 0, none⟩), .int .i64 p0, .int .i64 p1, .int .i64 p2, .int .i64 p3, .int .i64 p4, .int .i64 p5, .int .i64 p6, .int .i64 p7, .int .i64 p8, .int .i64 p9, .int .i64 p10, .int .i64 p11, .int .i64 p12, .int .i64 p13, .int .i64 p14, .int .i64 p15, .int .i64 0] 58)).drew) := Lib.hid ((Upd.refl _ _).quiet _)
  generalize (w.alloc (.cells #[.pointer (some ⟨h, 0, none⟩), .int .i64 p0, .int .i64 p1, .int .i64 p2, .int .i64 p3, .int .i64 p4, .int .i64 p5, .int .i64 p6, .int .i64 p7, .int .i64 p8, .int .i64 p9, .int .i64 p10, .int .i64 p11, .int .i64 p12, .int .i64 p13, .int .i64 p14, .int .i64 p15, .int .i64 0] 58)).drew = w5 at *
  clear e0 e1 e2 e3 e4 e5 e6 e7 e8 e9 e10 e11 e12 e13 e14 e15
  go_loopw [23] (fun i wr => ∃ k : Nat, k ≤ 16 ∧ i = .int .i64 k ∧ Hid (Sp wr w.heap.size h pg 0) ∧ Hid (∃ d' r', Ho (fun b => M b ∨ b = w.heap.size) wr h d' r' (f.shareN pg k)) ∧ Hid (Upd (fun b => b = h) w wr)) (fun i _ => 16 - (intOf i).toNat)
  case atStart => exact ⟨0, Nat.zero_le _, rfl, A1, A2, A3⟩
  case round =>
    obtain ⟨k, hk, rfl, B1, B2, B3⟩ := hrel
    clear A1 A2 A3
    by_cases hlt : k < 16
    · have hix := HIX.out k hlt wr
      obtain ⟨z, hz⟩ : ∃ z, pg.getD k 0 = z := ⟨_, rfl⟩
      rw [hz] at hix
      have HZ := Lib.hid hz
      by_cases hz0 : z < 0
      · have hzd : decide (z < 0) = true := decide_eq_true hz0
        have HN : Hid (f.shareN pg (k + 1) = f.shareN pg k) := Lib.hid (by simp only [Fr.shareN]; rw [hz, if_pos hz0])
        clear hz
        go_wp2_with fail
        go_roundw
        case rel => exact ⟨k + 1, by omega, by go_num, B1, by rw [HN.out]; exact B2, B3⟩
        case measure => simp [intOf]; omega
      · have hzd : decide (z < 0) = false := decide_eq_false hz0
        obtain ⟨m, hm⟩ : ∃ m : Nat, z = m := ⟨z.toNat, by omega⟩
        subst hm
        have hpk : 0 ≤ pg.getD k 0 ∧ (pg.getD k 0).toNat < f.refs.length ∧ f.refs.getD (pg.getD k 0).toNat 0 ≠ 0 := by
          rcases HP.out k hlt with h1 | h1
          · omega
          · exact h1
        rw [hz] at hpk
        have em : ((m : Int)).toNat = m := by omega
        rw [em] at hpk
        have hr0 := f.shareN_refs pg m hpk.2.1 k
        have hlo := HL.out m hpk.2.1
        have hnn := (KH.out.ok.refs m hpk.2.1).1
        have HOK : Hid (f.shareN pg k).Ok := Lib.hid (KH.out.ok.shareN HP.out HL.out k hk)
        have HOK1 : Hid (f.shareN pg (k + 1)).Ok := Lib.hid (KH.out.ok.shareN HP.out HL.out (k + 1) (by omega))
        have HN : Hid (f.shareN pg (k + 1) = (f.shareN pg k).setRef m ((f.shareN pg k).refs.getD m 0 + 1)) := Lib.hid (by simp only [Fr.shareN]; rw [hz, if_neg hz0, em])
        have HB1 : Hid (m < (f.shareN pg k).refs.length) := Lib.hid (by rw [f.shareN_len]; exact hpk.2.1)
        have HB2 : Hid ((f.shareN pg k).refs.getD m 0 ≠ 0) := Lib.hid (by have := hpk.2.2; omega)
        have HB3 : Hid ((f.shareN pg k).refs.getD m 0 < 200) := Lib.hid (by omega)
        obtain ⟨d1, r1, HHk⟩ := B2.out
        have KHk := Lib.hid HHk
        have hst := (KS.out.upd B3.out hne)
        have hst0 := hst.host
        have hh0 := HHk.c0
        have hh1 := HHk.c1
        have y1 : s < wr.heap.size := hst.lt
        have y2 : h < wr.heap.size := HHk.blk.lt
        have KST := Lib.hid hst
        have HM' : Hid (∀ b, (M b ∨ b = w.heap.size) → b < wr.heap.size) := Lib.hid (fun b hb => hb.elim (fun x => Nat.lt_of_lt_of_le (KM.out b x) B3.out.size) (fun e => by rw [e]; exact B1.out.lt))
        clear hz hpk hr0 hlo hnn HHk hst em
        have hne2 : h ≠ s := Ne.symm hne
        go_wp2_with (
          go_at_call 21
          refine (frShare _ _ (f.shareN pg k) _ m KHk.out.reads HOK.out HB1.out HB2.out HB3.out).mono ?_
          rintro e w1 ⟨A, na, ca, B, nb, cb, rfl, hr1, hb1⟩
          have ist0 := (KST.out.below hb1).host
          have ih0 := (KHk.out.below hb1).c0
          have ih1 := (KHk.out.below hb1).c1
          have q2 : ∀ i, w1.frozen? ⟨h, i, none⟩ = false := fun i => (KHk.out.below hb1).blk.frozen i
          have z3 : s < w1.heap.size := (KST.out.below hb1).lt
          have z4 : h < w1.heap.size := (KHk.out.below hb1).blk.lt
          have HR1 := Lib.hid hr1
          clear hr1)
        go_region
        go_wp2_with fail
        go_roundw
        case rel =>
          have P1 := KHk.out.put HM'.out hb1 HR1.out (by rw [← HN.out]; exact HOK1.out)
          refine ⟨k + 1, by omega, by go_num, Lib.hid ((((B1.out.below hb1).other (by show w.heap.size ≠ h; omega) _).other (by show w.heap.size ≠ h; omega) _).quiet _), Lib.hid ⟨_, _, by rw [HN.out]; exact P1.quiet _⟩,
            Lib.hid (((B3.out.trans (Upd.of_below hb1)).trans ((Upd.setCell (S := fun b => b = h) rfl _).trans (Upd.setCell (S := fun b => b = h) rfl _))).quiet _)⟩
        case measure => simp [intOf]; omega
    · obtain rfl : k = 16 := by omega
      go_wp2_with fail
      refine bodyPost_ret (v := .tuple #[.pointer (some ⟨w.heap.size, 0, none⟩), .int .i64 0]) ?_ rfl ⟨rfl, B1.out, B2.out, B3.out⟩
      simp [results, Try.results15, go_sem]
end Go.Proofs.Ytipppemkcbgecaa
