/- space.Play's walk. -/
import Derived.Test.YtipppemkcbgecaaPlA
open Go Go.RowKit
namespace Go.Proofs.Ytipppemkcbgecaa
theorem playB_err {f : Fr} {pa pb l : List Int} {e : Int} {k : Nat} (h : playB f pa pb l k = .error e) : ∀ m, k ≤ m → playB f pa pb l m = .error e
  | 0, hm => by
    obtain rfl : k = 0 := by omega
    exact h
  | m + 1, hm => by
    by_cases hk : k = m + 1
    · rw [← hk]; exact h
    · simp only [playB]
      rw [playB_err h m (by omega)]
theorem RdFr.agg {p : Nat → Prop} {w : World} {v : Value} {f : Fr} (h : RdFr p w v f) : ∃ A n c B m k, v = .agg #[.slice A n c, .slice B m k] := by
  obtain ⟨bd, od, cd, br, or_, cr, rows, e, _⟩ := h
  exact ⟨_, _, _, _, _, _, e⟩
theorem below_upd {S : Nat → Prop} {w W w' : World} (h : Below w.heap.size w W) (hu : Upd S W w') (hS : ∀ b, S b → w.heap.size ≤ b) : Below w.heap.size w w' :=
  ⟨hu.os.trans h.os, hu.tape.trans h.tape, hu.output.trans h.output, Nat.le_trans h.size hu.size, fun b hb => (hu.block b (Nat.lt_of_lt_of_le hb h.size) (fun x => by have := hS b x; omega)).trans (h.block b hb)⟩
theorem playA_err {f : Fr} {l : List Int} {e : Int} {k : Nat} (h : playA f l k = .error e) : ∀ m, k ≤ m → playA f l m = .error e
  | 0, hm => by
    obtain rfl : k = 0 := by omega
    exact h
  | m + 1, hm => by
    by_cases hk : k = m + 1
    · rw [← hk]; exact h
    · simp only [playA]
      rw [playA_err h m (by omega)]
def PlayPost (w : World) (res : Except Int (List Int × List Int × Nat)) (e : Ending) (w' : World) : Prop :=
  Below w.heap.size w w' ∧ match res with
    | .error x => e = .returned (.tuple #[.slice none 0 0, .slice none 0 0, .int .i64 0, .int .i64 x])
    | .ok (a, b, k) => ∃ ga gb, e = .returned (.tuple #[.slice (some ⟨ga, 0, none⟩) 256 256, .slice (some ⟨gb, 0, none⟩) 256 256, .int .i64 (k : Nat), .int .i64 0]) ∧
        w'.ownsRow w.heap.size 3 1 (.slice (some ⟨ga, 0, none⟩) 256 256) 256 (ints a) ∧ w'.ownsRow w.heap.size 3 1 (.slice (some ⟨gb, 0, none⟩) 256 256) 256 (ints b)
set_option maxRecDepth 100000
set_option maxHeartbeats 400000 in
theorem play_bad (w : World) (n : Int) (hn : n < 0 ∨ 200 < n) (v1 v2 : Value) :
    Calls Try.prog 5 #[.int .i64 n, v1, v2] w fun e w' => e = .returned (.tuple #[.slice none 0 0, .slice none 0 0, .int .i64 0, .int .i64 2]) ∧ Below w.heap.size w w' := by
  go_enter Try.func5, Try.ntmps5
  go_wp2_with (
    go_at_call 11
    refine (frNew_bad _ n hn).mono ?_
    rintro e w1 ⟨rfl, hw1⟩)
  refine bodyPost_ret (v := .tuple #[.slice none 0 0, .slice none 0 0, .int .i64 0, .int .i64 2]) ?_ rfl ⟨rfl, hw1.alloc hw1.size _⟩
  simp [results, Try.results5, go_sem]
def upTo (l : List Int) (m : Nat) : Nat := ((l.take m).filter (fun x => decide (0 < x))).length
theorem upTo_succ (l : List Int) (m : Nat) (h : m < l.length) : upTo l (m + 1) = upTo l m + (if 0 < l.getD m 0 then 1 else 0) := by
  have e : l.take (m + 1) = l.take m ++ [l.getD m 0] := by rw [List.take_add_one, getD_some l m 0 h]; rfl
  unfold upTo
  rw [e, List.filter_append, List.length_append]
  rw [List.filter_cons]
  by_cases h0 : 0 < l.getD m 0
  · rw [if_pos (by simpa using h0), if_pos h0]; rfl
  · rw [if_neg (by simpa using h0), if_neg h0]; rfl
/-- A host's counts, on memory. -/
theorem Ho.refs_at {M : Nat → Prop} {w : World} {h : Nat} {d r : Value} {f : Fr} (H : Ho M w h d r f) :
    ∃ br or_ nr cr, r = .slice (some ⟨br, or_, none⟩) nr cr ∧ f.refs.length = nr ∧ nr ≤ 200 ∧ ∀ i, i < nr → w.cell? ⟨br, or_ + i, none⟩ = some (.int .i64 (f.refs.getD i 0)) := by
  obtain ⟨bd, od, cd, br, or_, cr, rows, e, hd, hr, hrows⟩ := H.reads
  injection e with e
  have e2 := congrArg (fun a => a[1]?) e
  simp at e2
  refine ⟨br, or_, f.refs.length, cr, e2, rfl, H.ok.most, fun i hi => ?_⟩
  obtain ⟨b, o, c, e3, _, _, _, hc⟩ := hr.at_ (by omega)
  cases e3
  exact hc i hi
/-- The state of the loops: host h and space s, what the first k writes came to. -/
structure PA (w wr : World) (h s : Nat) (f0 : Fr) (l : List Int) (k : Nat) (f : Fr) (pg : List Int) (d r : Value) : Prop where
  low : w.heap.size ≤ h
  low' : w.heap.size ≤ s
  ne : s ≠ h
  run : playA f0 l k = .ok (f, pg)
  ho : Ho (fun b => b = s ∨ b = h) wr h d r f
  sp : Sp wr s h pg 0
  below : Below w.heap.size w wr
/-- The state of the second loop: t is the second space. -/
structure PB (w wr : World) (h s t : Nat) (f0 : Fr) (pg : List Int) (l : List Int) (k : Nat) (f : Fr) (qa qb : List Int) (d r : Value) : Prop where
  low : w.heap.size ≤ h
  lows : w.heap.size ≤ s
  lowt : w.heap.size ≤ t
  nes : s ≠ h
  net : t ≠ h
  st : s ≠ t
  run : playB f0 pg pg l k = .ok (f, qa, qb)
  ho : Ho (fun b => (b = s ∨ b = h) ∨ b = t) wr h d r f
  spa : Sp wr s h qa 0
  spb : Sp wr t h qb 0
  below : Below w.heap.size w wr
set_option maxHeartbeats 4000000 in
theorem play_ok (w : World) (n : Nat) (hn : n ≤ 200) (v1 v2 : Value) (n1 n2 : Nat) (l1 l2 : List Int) (h1 : RdF w 2 v1 n1 l1) (h2 : RdF w 3 v2 n2 l2) :
    Calls Try.prog 5 #[.int .i64 n, v1, v2] w (PlayPost w (playOf n n1 l1 n2 l2)) := by
  have H1 := Lib.hid h1
  have H2 := Lib.hid h2
  obtain ⟨A1, c1, rfl, hl1, hc1, hm1, ha1⟩ := h1
  obtain ⟨A2, c2, rfl, hl2, hc2, hm2, ha2⟩ := h2
  have HI0 := Lib.hid (Inv.fresh n hn)
  have HE : Hid (playOf n n1 l1 n2 l2 = (match playA (Fr.fresh n) l1 n1 with
    | .error e => .error e
    | .ok (f, pg) => match playB (f.shareN pg 16) pg pg l2 n2 with
      | .error e => .error e
      | .ok (g, qa, qb) => .ok (g.words qa, g.words qb, g.used))) := Lib.hid (by unfold playOf; rw [if_pos ⟨by omega, by omega⟩, show ((n : Int)).toNat = n by omega]; rfl)
  have hm1' : c1 ≤ 9223372036854775807 := hm1
  have hm2' : c2 ≤ 9223372036854775807 := hm2
  clear hl1 hl2 ha1 ha2
  obtain ⟨res, hres⟩ : ∃ res, playOf n n1 l1 n2 l2 = res := ⟨_, rfl⟩
  rw [hres] at HE ⊢
  clear hres
  go_enter Try.func5, Try.ntmps5
  go_wp2_with (first
    | (
      go_at_call 11
      refine (frNew_ok _ n hn).mono ?_
      rintro e w1 ⟨v', rfl, hr1, hw1⟩
      obtain ⟨A, na, ca, B, nb, cb, rfl⟩ := hr1.agg
      have HR1 := Lib.hid hr1
      clear hr1)
    | (
      go_at_call 12
      refine (hostSpace _ _).mono ?_
      rintro e w2 ⟨rfl, hs2, hw2⟩))
  have hz1 := hw1.size
  have hz2 := hw2.size
  simp at hz2
  have HPA : Hid (∃ f pg d r, PA w w2 (w1.heap.size + 1) (w1.heap.size + 1 + 1) (Fr.fresh n) l1 0 f pg d r) := Lib.hid ⟨Fr.fresh n, List.replicate 16 (-1), .slice A na ca, .slice B nb cb, by omega, by omega, by omega, rfl,
    ⟨(Blk.at_alloc2 w1 _ _ _).below hw2, ((HR1.out.in_heap.below (by go_grown)).below hw2).mono (fun b hb => ⟨by omega, by omega⟩), HI0.out.ok, .inr rfl⟩, by simpa using hs2, below_up' (hw1.trans (by go_grown)) hw2⟩
  clear hs2 hw2 hw1 HR1 hz1 hz2
  generalize w1.heap.size + 1 + 1 = s at *
  generalize w1.heap.size + 1 = h at *
  go_loopw [40] (fun i wr => ∃ k : Nat, k ≤ n1 ∧ i = .int .i64 k ∧ Hid (∃ f pg d r, PA w wr h s (Fr.fresh n) l1 k f pg d r)) (fun i _ => n1 - (intOf i).toNat)
  case atStart => exact ⟨0, Nat.zero_le _, rfl, HPA⟩
  case round =>
    obtain ⟨k, hk, rfl, HK⟩ := hrel
    clear HPA
    obtain ⟨f, pg, d, r, PK⟩ := HK.out
    have HP := Lib.hid PK
    have HIV := Lib.hid (playA_inv HI0.out k f pg PK.run)
    have y1 : s < wr.heap.size := PK.sp.lt
    have y2 : h < wr.heap.size := PK.ho.blk.lt
    have hne := PK.ne
    by_cases hlt : k < n1
    · obtain ⟨A, c, e, hl, hc, hm, ha⟩ := H1.out.below PK.below
      cases e
      obtain ⟨b, o, rfl, hb, hcell⟩ := ha (by omega)
      have x0 := hcell (k * 2) (by omega)
      have x1 := hcell (k * 2 + 1) (by omega)
      obtain ⟨at_, hat⟩ : ∃ z, l1.getD (k * 2) 0 = z := ⟨_, rfl⟩
      obtain ⟨va, hva⟩ : ∃ z, l1.getD (k * 2 + 1) 0 = z := ⟨_, rfl⟩
      rw [hat] at x0
      rw [hva, ← Nat.add_assoc] at x1
      have HS : Hid (playA (Fr.fresh n) l1 (k + 1) = stepStore f pg at_ va) := Lib.hid (by simp only [playA]; rw [PK.run]; simp only [hat, hva])
      have HC : Hid (∀ W, Below wr.heap.size wr W → Calls Try.prog 13 #[.pointer (some ⟨s, 0, none⟩), .int .i64 at_, .int .i64 va] W fun e w' => Upd (fun b => b = s ∨ b = h) W w' ∧
        ((∃ fl, stepStore f pg at_ va = .error fl ∧ (fl = 2 ∨ fl = 7) ∧ e = .returned (.bool false) ∧ ∃ pg', Sp w' s h pg' (if fl = 2 then 0 else 7)) ∨
         (∃ f' pg' d' r', stepStore f pg at_ va = .ok (f', pg') ∧ e = .returned (.bool true) ∧ Ho (fun b => b = s ∨ b = h) w' h d' r' f' ∧ Sp w' s h pg' 0))) := Lib.hid (fun W hW => spStep _ W s h d r f pg at_ va (HP.out.ho.below hW) (HP.out.sp.below hW) (HIV.out.1.pgOk (by simp)) (fun b hb => Nat.lt_of_lt_of_le (by rcases hb with rfl | rfl <;> assumption) hW.size) (.inl rfl) hne)
      clear PK hcell ha hat hva hl hc
      cases hst : stepStore f pg at_ va with
      | error fl =>
        have HC1 : Hid (∀ W, Below wr.heap.size wr W → Calls Try.prog 13 #[.pointer (some ⟨s, 0, none⟩), .int .i64 at_, .int .i64 va] W fun e w' => Upd (fun b => b = s ∨ b = h) W w' ∧ e = .returned (.bool false) ∧ (fl = 2 ∨ fl = 7) ∧ ∃ pg', Sp w' s h pg' (if fl = 2 then 0 else 7)) := Lib.hid (fun W hW => (HC.out W hW).mono (by
          rintro e w' ⟨hu, ⟨fl', h1, h2, rfl, h3⟩ | ⟨f', pg', d', r', h1, _⟩⟩
          · rw [hst] at h1; cases h1; exact ⟨hu, rfl, h2, h3⟩
          · rw [hst] at h1; cases h1))
        have HS1 := Lib.hid (HS.out.trans hst)
        clear HC hst
        go_wp2_with (first
          | (
            go_at_call 13
            refine (HC1.out _ (by go_grown)).mono ?_
            rintro e w3 ⟨hu3, rfl, hfl, pg', sp3⟩)
          | (
            go_at_call 14
            refine (spFault _ s h pg' fl hfl sp3).mono ?_
            rintro e w4 ⟨rfl, rfl⟩))
        have HX : Hid (res = .error fl) := Lib.hid (by rw [HE.out, playA_err HS1.out n1 (by omega)])
        refine bodyPost_ret (v := .tuple #[.slice none 0 0, .slice none 0 0, .int .i64 0, .int .i64 fl]) ?_ rfl ⟨?_, by rw [HX.out]⟩
        · simp [results, Try.results5, go_sem]
        · exact below_upd (below_up' HP.out.below (by go_grown)) hu3 (fun b hb => by have := HP.out.low; have := HP.out.low'; rcases hb with rfl | rfl <;> assumption)
      | ok st =>
        obtain ⟨f', pg'⟩ := st
        have HC1 : Hid (∀ W, Below wr.heap.size wr W → Calls Try.prog 13 #[.pointer (some ⟨s, 0, none⟩), .int .i64 at_, .int .i64 va] W fun e w' => Upd (fun b => b = s ∨ b = h) W w' ∧ e = .returned (.bool true) ∧ ∃ d' r', Ho (fun b => b = s ∨ b = h) w' h d' r' f' ∧ Sp w' s h pg' 0) := Lib.hid (fun W hW => (HC.out W hW).mono (by
          rintro e w' ⟨hu, ⟨fl', h1, _⟩ | ⟨f'', pg'', d', r', h1, rfl, h2, h3⟩⟩
          · rw [hst] at h1; cases h1
          · rw [hst] at h1; cases h1; exact ⟨hu, rfl, d', r', h2, h3⟩))
        have HS1 := Lib.hid (HS.out.trans hst)
        clear HC hst
        go_wp2_with (
          go_at_call 13
          refine (HC1.out _ (by go_grown)).mono ?_
          rintro e w3 ⟨hu3, rfl, d', r', ho3, sp3⟩)
        go_roundw
        case rel => exact ⟨k + 1, by omega, by go_num, Lib.hid ⟨f', pg', d', r', HP.out.low, HP.out.low', hne, HS1.out, ho3, sp3, below_upd (below_up' HP.out.below (by go_grown)) hu3 (fun b hb => by have := HP.out.low; have := HP.out.low'; rcases hb with rfl | rfl <;> assumption)⟩⟩
        case measure => simp [intOf]; omega
    · obtain rfl : k = n1 := by omega
      have HX : Hid (res = (match playB (f.shareN pg 16) pg pg l2 n2 with
        | .error e => .error e
        | .ok (g, qa, qb) => .ok (g.words qa, g.words qb, g.used))) := Lib.hid (by rw [HE.out, PK.run])
      have HIF := Lib.hid (HIV.out.1.fork HIV.out.1.low)
      clear PK HE
      go_wp2_with (
        go_at_call 15
        refine (spFork _ _ s h d r f pg 0 HP.out.ho HP.out.sp (HIV.out.1.pgOk (by simp)) (fun b hb => by rcases hb with rfl | rfl <;> assumption) (.inl rfl) hne HIV.out.1.low).mono ?_
        rintro e w3 ⟨rfl, sb, ⟨d', r', ho3⟩, hu3⟩)
      have HPB : Hid (∃ g qa qb d r, PB w w3 h s wr.heap.size (f.shareN pg 16) pg l2 0 g qa qb d r) := Lib.hid ⟨_, _, _, d', r', HP.out.low, HP.out.low', HP.out.below.size, hne, by omega, by omega, rfl, ho3,
        HP.out.sp.upd hu3 hne, sb, below_upd HP.out.below hu3 (fun b hb => by have := HP.out.low; omega)⟩
      clear sb ho3 hu3
      generalize wr.heap.size = t at *
      clear HP HIV HK y1 y2 hlt
      go_loopw [64] (fun i wr => ∃ j : Nat, j ≤ n2 ∧ i = .int .i64 j ∧ Hid (∃ g qa qb d r, PB w wr h s t (f.shareN pg 16) pg l2 j g qa qb d r)) (fun i _ => n2 - (intOf i).toNat)
      case atStart => exact ⟨0, Nat.zero_le _, rfl, HPB⟩
      case round =>
        obtain ⟨j, hj, rfl, HK⟩ := hrel
        clear HPB
        obtain ⟨g, qa, qb, d, r, PK⟩ := HK.out
        have HP := Lib.hid PK
        have HIV := Lib.hid (playB_inv HIF.out j g qa qb PK.run)
        have y1 : s < wr.heap.size := PK.spa.lt
        have y2 : h < wr.heap.size := PK.ho.blk.lt
        have y3 : t < wr.heap.size := PK.spb.lt
        by_cases hlt : j < n2
        · obtain ⟨A, c, e, hl, hc, hm, ha⟩ := H2.out.below PK.below
          cases e
          obtain ⟨b, o, rfl, hb, hcell⟩ := ha (by omega)
          have x0 := hcell (j * 3) (by omega)
          have x1 := hcell (j * 3 + 1) (by omega)
          have x2 := hcell (j * 3 + 2) (by omega)
          obtain ⟨at_, hat⟩ : ∃ z, l2.getD (j * 3) 0 = z := ⟨_, rfl⟩
          obtain ⟨va, hva⟩ : ∃ z, l2.getD (j * 3 + 1) 0 = z := ⟨_, rfl⟩
          obtain ⟨wh, hwh⟩ : ∃ z, l2.getD (j * 3 + 2) 0 = z := ⟨_, rfl⟩
          rw [hat] at x0
          rw [hva, ← Nat.add_assoc] at x1
          rw [hwh, ← Nat.add_assoc] at x2
          by_cases hw0 : wh = 0
          · subst hw0
            have HC : Hid (∀ W, Below wr.heap.size wr W → Calls Try.prog 13 #[.pointer (some ⟨s, 0, none⟩), .int .i64 at_, .int .i64 va] W fun e w' => Upd (fun b => b = s ∨ b = h) W w' ∧
              ((∃ fl, stepStore g qa at_ va = .error fl ∧ (fl = 2 ∨ fl = 7) ∧ e = .returned (.bool false) ∧ ∃ pg', Sp w' s h pg' (if fl = 2 then 0 else 7)) ∨
               (∃ f' pg' d' r', stepStore g qa at_ va = .ok (f', pg') ∧ e = .returned (.bool true) ∧ Ho (fun b => (b = s ∨ b = h) ∨ b = t) w' h d' r' f' ∧ Sp w' s h pg' 0))) := Lib.hid (fun W hW => spStep _ W s h d r g qa at_ va (HP.out.ho.below hW) (HP.out.spa.below hW) (HIV.out.1.pgOk (by simp)) (fun b hb => Nat.lt_of_lt_of_le (by rcases hb with (rfl | rfl) | rfl <;> assumption) hW.size) (.inl (.inl rfl)) HP.out.nes)
            cases hst : stepStore g qa at_ va with
            | error fl =>
              have HC1 : Hid (∀ W, Below wr.heap.size wr W → Calls Try.prog 13 #[.pointer (some ⟨s, 0, none⟩), .int .i64 at_, .int .i64 va] W fun e w' => Upd (fun b => b = s ∨ b = h) W w' ∧ e = .returned (.bool false) ∧ (fl = 2 ∨ fl = 7) ∧ ∃ pg', Sp w' s h pg' (if fl = 2 then 0 else 7)) := Lib.hid (fun W hW => (HC.out W hW).mono (by
                rintro e w' ⟨hu, ⟨fl', h1, h2, rfl, h3⟩ | ⟨f', pg', d', r', h1, _⟩⟩
                · rw [hst] at h1; cases h1; exact ⟨hu, rfl, h2, h3⟩
                · rw [hst] at h1; cases h1))
              have HS1 : Hid (playB (f.shareN pg 16) pg pg l2 (j + 1) = .error fl) := Lib.hid (by simp only [playB]; rw [PK.run]; simp only [hat, hva, hwh, if_true, hst])
              clear HC hst PK hcell ha hat hva hwh hl hc
              go_wp2_with (first
                | (
                  go_at_call 13
                  refine (HC1.out _ (by go_grown)).mono ?_
                  rintro e w4 ⟨hu3, rfl, hfl, pg', sp3⟩)
                | (
                  go_at_call 14
                  refine (spFault _ s h pg' fl hfl sp3).mono ?_
                  rintro e w5 ⟨rfl, rfl⟩))
              have HY : Hid (res = .error fl) := Lib.hid (by rw [HX.out, playB_err HS1.out n2 (by omega)])
              refine bodyPost_ret (v := .tuple #[.slice none 0 0, .slice none 0 0, .int .i64 0, .int .i64 fl]) ?_ rfl ⟨?_, by rw [HY.out]⟩
              · simp [results, Try.results5, go_sem]
              · exact below_upd (below_up' HP.out.below (by go_grown)) hu3 (fun b hb => by have := HP.out.low; have := HP.out.lows; have := HP.out.lowt; rcases hb with rfl | rfl <;> assumption)
            | ok st' =>
              obtain ⟨f', pg'⟩ := st'
              have HC1 : Hid (∀ W, Below wr.heap.size wr W → Calls Try.prog 13 #[.pointer (some ⟨s, 0, none⟩), .int .i64 at_, .int .i64 va] W fun e w' => Upd (fun b => b = s ∨ b = h) W w' ∧ e = .returned (.bool true) ∧ ∃ d' r', Ho (fun b => (b = s ∨ b = h) ∨ b = t) w' h d' r' f' ∧ Sp w' s h pg' 0) := Lib.hid (fun W hW => (HC.out W hW).mono (by
                rintro e w' ⟨hu, ⟨fl', h1, _⟩ | ⟨f'', pg'', d', r', h1, rfl, h2, h3⟩⟩
                · rw [hst] at h1; cases h1
                · rw [hst] at h1; cases h1; exact ⟨hu, rfl, d', r', h2, h3⟩))
              have HS1 : Hid (playB (f.shareN pg 16) pg pg l2 (j + 1) = .ok (f', pg', qb)) := Lib.hid (by simp only [playB]; rw [PK.run]; simp only [hat, hva, hwh, if_true, hst])
              clear HC hst PK hcell ha hat hva hwh hl hc
              go_wp2_with (
                go_at_call 13
                refine (HC1.out _ (by go_grown)).mono ?_
                rintro e w4 ⟨hu3, rfl, d', r', ho3, sp3⟩
                have so3 := (HP.out.spb.below (by go_grown)).upd hu3 (by have := HP.out.st; have := HP.out.nes; have := HP.out.net; omega)
                have be3 := below_upd (below_up' HP.out.below (by go_grown)) hu3 (fun b hb => by have := HP.out.low; have := HP.out.lows; have := HP.out.lowt; rcases hb with rfl | rfl <;> assumption))
              go_roundw
              case rel => exact ⟨j + 1, by omega, by go_num, Lib.hid ⟨f', pg', qb, d', r', HP.out.low, HP.out.lows, HP.out.lowt, HP.out.nes, HP.out.net, HP.out.st, HS1.out, ho3, sp3, so3, be3⟩⟩
              case measure => simp [intOf]; omega
          · have hwb : (wh == 0) = false := beq_eq_false_iff_ne.2 hw0
            have HC : Hid (∀ W, Below wr.heap.size wr W → Calls Try.prog 13 #[.pointer (some ⟨t, 0, none⟩), .int .i64 at_, .int .i64 va] W fun e w' => Upd (fun b => b = t ∨ b = h) W w' ∧
              ((∃ fl, stepStore g qb at_ va = .error fl ∧ (fl = 2 ∨ fl = 7) ∧ e = .returned (.bool false) ∧ ∃ pg', Sp w' t h pg' (if fl = 2 then 0 else 7)) ∨
               (∃ f' pg' d' r', stepStore g qb at_ va = .ok (f', pg') ∧ e = .returned (.bool true) ∧ Ho (fun b => (b = s ∨ b = h) ∨ b = t) w' h d' r' f' ∧ Sp w' t h pg' 0))) := Lib.hid (fun W hW => spStep _ W t h d r g qb at_ va (HP.out.ho.below hW) (HP.out.spb.below hW) (HIV.out.1.pgOk (by simp)) (fun b hb => Nat.lt_of_lt_of_le (by rcases hb with (rfl | rfl) | rfl <;> assumption) hW.size) (.inr rfl) HP.out.net)
            cases hst : stepStore g qb at_ va with
            | error fl =>
              have HC1 : Hid (∀ W, Below wr.heap.size wr W → Calls Try.prog 13 #[.pointer (some ⟨t, 0, none⟩), .int .i64 at_, .int .i64 va] W fun e w' => Upd (fun b => b = t ∨ b = h) W w' ∧ e = .returned (.bool false) ∧ (fl = 2 ∨ fl = 7) ∧ ∃ pg', Sp w' t h pg' (if fl = 2 then 0 else 7)) := Lib.hid (fun W hW => (HC.out W hW).mono (by
                rintro e w' ⟨hu, ⟨fl', h1, h2, rfl, h3⟩ | ⟨f', pg', d', r', h1, _⟩⟩
                · rw [hst] at h1; cases h1; exact ⟨hu, rfl, h2, h3⟩
                · rw [hst] at h1; cases h1))
              have HS1 : Hid (playB (f.shareN pg 16) pg pg l2 (j + 1) = .error fl) := Lib.hid (by simp only [playB]; rw [PK.run]; simp only [hat, hva, hwh]; rw [if_neg hw0, hst])
              clear HC hst PK hcell ha hat hva hwh hl hc
              go_wp2_with (first
                | (
                  go_at_call 13
                  refine (HC1.out _ (by go_grown)).mono ?_
                  rintro e w4 ⟨hu3, rfl, hfl, pg', sp3⟩)
                | (
                  go_at_call 14
                  refine (spFault _ t h pg' fl hfl sp3).mono ?_
                  rintro e w5 ⟨rfl, rfl⟩))
              have HY : Hid (res = .error fl) := Lib.hid (by rw [HX.out, playB_err HS1.out n2 (by omega)])
              refine bodyPost_ret (v := .tuple #[.slice none 0 0, .slice none 0 0, .int .i64 0, .int .i64 fl]) ?_ rfl ⟨?_, by rw [HY.out]⟩
              · simp [results, Try.results5, go_sem]
              · exact below_upd (below_up' HP.out.below (by go_grown)) hu3 (fun b hb => by have := HP.out.low; have := HP.out.lows; have := HP.out.lowt; rcases hb with rfl | rfl <;> assumption)
            | ok st' =>
              obtain ⟨f', pg'⟩ := st'
              have HC1 : Hid (∀ W, Below wr.heap.size wr W → Calls Try.prog 13 #[.pointer (some ⟨t, 0, none⟩), .int .i64 at_, .int .i64 va] W fun e w' => Upd (fun b => b = t ∨ b = h) W w' ∧ e = .returned (.bool true) ∧ ∃ d' r', Ho (fun b => (b = s ∨ b = h) ∨ b = t) w' h d' r' f' ∧ Sp w' t h pg' 0) := Lib.hid (fun W hW => (HC.out W hW).mono (by
                rintro e w' ⟨hu, ⟨fl', h1, _⟩ | ⟨f'', pg'', d', r', h1, rfl, h2, h3⟩⟩
                · rw [hst] at h1; cases h1
                · rw [hst] at h1; cases h1; exact ⟨hu, rfl, d', r', h2, h3⟩))
              have HS1 : Hid (playB (f.shareN pg 16) pg pg l2 (j + 1) = .ok (f', qa, pg')) := Lib.hid (by simp only [playB]; rw [PK.run]; simp only [hat, hva, hwh]; rw [if_neg hw0, hst])
              clear HC hst PK hcell ha hat hva hwh hl hc
              go_wp2_with (
                go_at_call 13
                refine (HC1.out _ (by go_grown)).mono ?_
                rintro e w4 ⟨hu3, rfl, d', r', ho3, sp3⟩
                have so3 := (HP.out.spa.below (by go_grown)).upd hu3 (by have := HP.out.st; have := HP.out.nes; have := HP.out.net; omega)
                have be3 := below_upd (below_up' HP.out.below (by go_grown)) hu3 (fun b hb => by have := HP.out.low; have := HP.out.lows; have := HP.out.lowt; rcases hb with rfl | rfl <;> assumption))
              go_roundw
              case rel => exact ⟨j + 1, by omega, by go_num, Lib.hid ⟨f', qa, pg', d', r', HP.out.low, HP.out.lows, HP.out.lowt, HP.out.nes, HP.out.net, HP.out.st, HS1.out, ho3, so3, sp3, be3⟩⟩
              case measure => simp [intOf]; omega
        · obtain rfl : j = n2 := by omega
          have HY : Hid (res = .ok (g.words qa, g.words qb, g.used)) := Lib.hid (by rw [HX.out, PK.run])
          obtain ⟨br, or_, nr, cr, hrr, hnr, hn200, hcells⟩ := PK.ho.refs_at
          subst hrr
          have HN := Lib.hid hnr
          have HCL := Lib.hid hcells
          clear PK HX hnr hcells
          go_wp2_with (first
            | (
              go_at_call_of 16 (Value.pointer (some ⟨s, 0, none⟩))
              refine (spWords _ _ s h d _ g qa 0 HP.out.ho HP.out.spa (HIV.out.1.pgOk (by simp))).mono ?_
              rintro e w4 ⟨rfl, own4, hb4⟩
              have hz4 := hb4.size)
            | (
              go_at_call_of 16 (Value.pointer (some ⟨t, 0, none⟩))
              refine (spWords _ _ t h d _ g qb 0 (HP.out.ho.below hb4) (HP.out.spb.below hb4) (HIV.out.1.pgOk (by simp))).mono ?_
              rintro e w5 ⟨rfl, own5, hb5⟩
              have hz5 := hb5.size
              have hh1 := ((HP.out.ho.below hb4).below hb5).c1
              have y5 : h < w5.heap.size := (by omega)))
          obtain ⟨br', or', nr', cr', e5, hnr5, _, hc5⟩ := ((HP.out.ho.below hb4).below hb5).refs_at
          cases e5
          have HC5 := Lib.hid hc5
          clear hc5 hnr5
          go_loop [22, 93] (fun c i => ∃ m : Nat, m ≤ nr ∧ i = .int .i64 m ∧ c = .int .i64 (upTo g.refs m : Nat)) (fun _ i => nr - (intOf i).toNat)
          case atStart => exact ⟨0, Nat.zero_le _, rfl, rfl⟩
          case round =>
            obtain ⟨m, hm, rfl, rfl⟩ := hrel
            by_cases hlt2 : m < nr
            · have hx := HC5.out m hlt2
              obtain ⟨z, hz⟩ : ∃ z, g.refs.getD m 0 = z := ⟨_, rfl⟩
              rw [hz] at hx
              have HU := Lib.hid (upTo_succ g.refs m (by rw [HN.out]; exact hlt2))
              obtain ⟨u, hu⟩ : ∃ u, upTo g.refs m = u := ⟨_, rfl⟩
              have hule : u ≤ 200 := by rw [← hu]; unfold upTo; exact Nat.le_trans (List.length_filter_le _ _) (Nat.le_trans (List.length_take_le _ _) (by omega))
              rw [hu, hz] at HU
              rw [hu]
              by_cases hz0 : 0 < z
              · have hzd : decide (0 < z) = true := decide_eq_true hz0
                rw [if_pos hz0] at HU
                clear hz hu
                go_wp2_with fail
                go_round
                case rel => exact ⟨m + 1, by omega, by go_num, by rw [HU.out]; go_num⟩
                case measure => simp [intOf]; omega
              · have hzd : decide (0 < z) = false := decide_eq_false hz0
                rw [if_neg hz0, Nat.add_zero] at HU
                clear hz hu
                go_wp2_with fail
                go_round
                case rel => exact ⟨m + 1, by omega, by go_num, by rw [HU.out]; rfl⟩
                case measure => simp [intOf]; omega
            · obtain rfl : m = nr := by omega
              go_wp2_with fail
              have hup : upTo g.refs m = g.used := by unfold upTo Fr.used; rw [List.take_of_length_le (by rw [HN.out]; exact Nat.le_refl _)]
              rw [hup]
              have hlow := HP.out.below.size
              refine bodyPost_ret (v := .tuple #[.slice (some ⟨wr.heap.size, 0, none⟩) 256 256, .slice (some ⟨w4.heap.size, 0, none⟩) 256 256, .int .i64 (g.used : Nat), .int .i64 0]) ?_ rfl ⟨below_up' (below_up' HP.out.below hb4) hb5, ?_⟩
              · simp [results, Try.results5, go_sem]
              · rw [HY.out]
                exact ⟨_, _, rfl, own_base_le (own_below own4 hb5) hlow, own_base_le own5 (by omega)⟩
end Go.Proofs.Ytipppemkcbgecaa
