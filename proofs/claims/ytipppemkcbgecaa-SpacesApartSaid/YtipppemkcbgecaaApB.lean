/- SpacesApart's walk. -/
import Derived.Test.YtipppemkcbgecaaApA
import Derived.Deep.CutBlock
import Derived.Deep.RegionLaw
open Go Go.RowKit
namespace Go.Proofs.Ytipppemkcbgecaa
set_option maxRecDepth 100000
theorem wf64 {z : Int} (h : (Lit.int .i64 z).wf = true) : -9223372036854775808 ≤ z ∧ z ≤ 9223372036854775807 := by
  simp [Lit.wf, IntKind.min, IntKind.max, IntKind.signed, IntKind.bits] at h
  omega
theorem wf_at {l : List Int} (h : ∀ z ∈ l, (Lit.int .i64 z).wf = true) (j : Nat) (hj : j < l.length) : -9223372036854775808 ≤ l.getD j 0 ∧ l.getD j 0 ≤ 9223372036854775807 := by
  refine wf64 (h _ ?_)
  rw [List.getD_eq_getElem?_getD, List.getElem?_eq_getElem hj]
  exact List.getElem_mem hj
theorem info_2 : (Try.prog.info? 34).map (fun i => (i.zero, i.size, i.bytes)) = some (some (.agg #[.int .i64 0, .int .i64 0]), 2, 16) := by kernel_rfl
theorem info_3 : (Try.prog.info? 36).map (fun i => (i.zero, i.size, i.bytes)) = some (some (.agg #[.int .i64 0, .int .i64 0, .int .i64 0]), 3, 24) := by kernel_rfl
/-- Behind k raw things of the first list. -/
structure S1 (w wr : World) (l : List Int) (k : Nat) (u : Value) : Prop where
  x : wr.ownsRow w.heap.size 3 1 (.slice (some ⟨w.heap.size, 0, none⟩) 256 256) 256 (ints (xOf l k))
  f : wr.ownsRow (w.heap.size + 1) 34 2 u k (ints (firstOf l k))
  below : Below w.heap.size w wr
theorem ints_app (a b : List Int) : ints (a ++ b) = ints a ++ ints b := by simp [ints]
theorem S1.step {w wr w1 : World} {l : List Int} {k : Nat} {u u1 : Value} (h : S1 w wr l k u) {o : Obj} (hg : (wr.alloc o).drew.grownBy w1 u.ownBlock)
    (hown : w1.ownsRow (w.heap.size + 1) 34 2 u1 (k + 1) (ints (firstOf l k) ++ [.int .i64 ((pick (l.getD (k * 4 + 1) 0) 256 : Nat) : Int), .int .i64 (l.getD (k * 4 + 3) 0)])) :
    Below w.heap.size w w1 ∧ w1.ownsRow w.heap.size 3 1 (.slice (some ⟨w.heap.size, 0, none⟩) 256 256) 256 (ints (xOf l k)) ∧
      S1 w (w1.setCell ⟨w.heap.size, pick (l.getD (k * 4 + 1) 0) 256, none⟩ (.int .i64 (l.getD (k * 4 + 3) 0))) l (k + 1) u1 := by
  have hu : ∀ g, u.ownBlock = some g → w.heap.size < g := fun g hg' => by have := (h.f.lt g hg').1; omega
  have hb : Below w.heap.size w w1 := (h.below.alloc h.below.size _).drew.grown hg (by simp; have := h.below.size; omega) (fun g hg' => by have := hu g hg'; omega)
  have hx : w1.ownsRow w.heap.size 3 1 (.slice (some ⟨w.heap.size, 0, none⟩) 256 256) 256 (ints (xOf l k)) := ((h.x.alloc o).drew).kept hg (.inr (by
    intro e
    have := hu w.heap.size e.symm
    omega))
  refine ⟨hb, hx, ?_, ?_, hb.setCell (Nat.le_refl _) _⟩
  · have := (hx.stored (pick (l.getD (k * 4 + 1) 0) 256) (.int .i64 (l.getD (k * 4 + 3) 0))).1
    rw [ints_set] at this
    exact this
  · have e : ints (firstOf l (k + 1)) = ints (firstOf l k) ++ [.int .i64 ((pick (l.getD (k * 4 + 1) 0) 256 : Nat) : Int), .int .i64 (l.getD (k * 4 + 3) 0)] := by
      simp only [firstOf, ints_app]; rfl
    rw [e]
    refine ownsRow_setCell_other hown (fun e => ?_) _
    have := (hown.lt _ e).1
    simp at this
    omega
theorem S1.drew {w wr : World} {l : List Int} {k : Nat} {u : Value} (h : S1 w wr l k u) : S1 w wr.drew l k u := ⟨h.x.drew, h.f.drew, h.below.drew⟩
/-- Behind k raw things of the second list. -/
structure S2 (w wr : World) (g cg : Nat) (u1 : Value) (K1 : Nat) (l1 : List Int) (lo : Nat) (l2 : List Int) (k : Nat) (u2 : Value) : Prop where
  x : wr.ownsRow w.heap.size 3 1 (.slice (some ⟨w.heap.size, 0, none⟩) 256 256) 256 (ints (xyOf l2 (xOf l1 K1) k).1)
  y : wr.ownsRow w.heap.size 3 1 (.slice (some ⟨g, 0, none⟩) 256 cg) 256 (ints (xyOf l2 (xOf l1 K1) k).2)
  f : wr.ownsRow (w.heap.size + 1) 34 2 u1 K1 (ints (firstOf l1 K1))
  r : wr.ownsRow lo 36 3 u2 k (ints (writesOf l2 k))
  low : w.heap.size < lo
  gl : g < lo
  ul : ∀ b, u1.ownBlock = some b → b < lo ∧ b ≠ g
  ne : g ≠ w.heap.size
  lh : lo ≤ wr.heap.size
  below : Below w.heap.size w wr
theorem S2.drew {w wr : World} {g cg : Nat} {u1 : Value} {K1 : Nat} {l1 : List Int} {lo : Nat} {l2 : List Int} {k : Nat} {u2 : Value} (h : S2 w wr g cg u1 K1 l1 lo l2 k u2) : S2 w wr.drew g cg u1 K1 l1 lo l2 k u2 :=
  ⟨h.x.drew, h.y.drew, h.f.drew, h.r.drew, h.low, h.gl, h.ul, h.ne, h.lh, h.below.drew⟩
/-- Behind the append: the word is still to be written. -/
structure S2m (w w1 : World) (g cg : Nat) (u1 : Value) (K1 : Nat) (l1 : List Int) (lo : Nat) (l2 : List Int) (k : Nat) (u3 : Value) : Prop where
  x : w1.ownsRow w.heap.size 3 1 (.slice (some ⟨w.heap.size, 0, none⟩) 256 256) 256 (ints (xyOf l2 (xOf l1 K1) k).1)
  y : w1.ownsRow w.heap.size 3 1 (.slice (some ⟨g, 0, none⟩) 256 cg) 256 (ints (xyOf l2 (xOf l1 K1) k).2)
  f : w1.ownsRow (w.heap.size + 1) 34 2 u1 K1 (ints (firstOf l1 K1))
  r : w1.ownsRow lo 36 3 u3 (k + 1) (ints (writesOf l2 (k + 1)))
  low : w.heap.size < lo
  gl : g < lo
  ul : ∀ b, u1.ownBlock = some b → b < lo ∧ b ≠ g
  ne : g ≠ w.heap.size
  lh : lo ≤ w1.heap.size
  below : Below w.heap.size w w1
theorem S2.mid {w wr w1 : World} {g cg : Nat} {u1 : Value} {K1 : Nat} {l1 : List Int} {lo : Nat} {l2 : List Int} {k : Nat} {u2 u3 : Value} (h : S2 w wr g cg u1 K1 l1 lo l2 k u2) {o : Obj} (hg : (wr.alloc o).drew.grownBy w1 u2.ownBlock)
    (hown : w1.ownsRow lo 36 3 u3 (k + 1) (ints (writesOf l2 k) ++ [.int .i64 ((pick (l2.getD (k * 4 + 1) 0) 256 : Nat) : Int), .int .i64 (l2.getD (k * 4 + 3) 0), .int .i64 ((pick (l2.getD (k * 4 + 2) 0) 2 : Nat) : Int)])) :
    S2m w w1 g cg u1 K1 l1 lo l2 k u3 := by
  have hu : ∀ b, u2.ownBlock = some b → lo ≤ b := fun b hb => (h.r.lt b hb).1
  have hl := h.low
  have hgl := h.gl
  refine ⟨((h.x.alloc o).drew).kept hg (.inr fun e => ?_), ((h.y.alloc o).drew).kept hg (.inr fun e => ?_), ((h.f.alloc o).drew).kept hg ?_, ?_, h.low, h.gl, h.ul, h.ne, by have := hg.size; simp at this; have := h.lh; omega, (h.below.alloc h.below.size _).drew.grown hg (by simp; have := h.below.size; omega) (fun b hb => by have := hu b hb; omega)⟩
  · have := hu w.heap.size e.symm; omega
  · have := hu g e.symm; omega
  · cases hb : u1.ownBlock with
    | none => exact .inl rfl
    | some b => exact .inr fun e => by have := hu b e.symm; have := (h.ul b hb).1; omega
  · have e : ints (writesOf l2 (k + 1)) = ints (writesOf l2 k) ++ [.int .i64 ((pick (l2.getD (k * 4 + 1) 0) 256 : Nat) : Int), .int .i64 (l2.getD (k * 4 + 3) 0), .int .i64 ((pick (l2.getD (k * 4 + 2) 0) 2 : Nat) : Int)] := by
      simp only [writesOf, ints_app]; rfl
    rw [e]
    exact hown
theorem S2m.store {w w1 : World} {g cg : Nat} {u1 : Value} {K1 : Nat} {l1 : List Int} {lo : Nat} {l2 : List Int} {k : Nat} {u3 : Value} (h : S2m w w1 g cg u1 K1 l1 lo l2 k u3) (b : Nat) (hb : b = if pick (l2.getD (k * 4 + 2) 0) 2 = 0 then w.heap.size else g) :
    S2 w (w1.setCell ⟨b, pick (l2.getD (k * 4 + 1) 0) 256, none⟩ (.int .i64 (l2.getD (k * 4 + 3) 0))) g cg u1 K1 l1 lo l2 (k + 1) u3 := by
  have hl := h.low
  have hgl := h.gl
  have hne := h.ne
  have hg0 := (h.y.lt g rfl).1
  have hu0 : ∀ c, u1.ownBlock = some c → w.heap.size < c := fun c hc => by have := (h.f.lt c hc).1; omega
  have hr0 : ∀ c, u3.ownBlock = some c → lo ≤ c := fun c hc => (h.r.lt c hc).1
  have hf : ∀ v, (w1.setCell ⟨b, pick (l2.getD (k * 4 + 1) 0) 256, none⟩ v).ownsRow (w.heap.size + 1) 34 2 u1 K1 (ints (firstOf l1 K1)) := fun v => ownsRow_setCell_other h.f (fun e => by
    have h1 := hu0 _ e
    have h2 := (h.ul _ e).2
    simp at h1 h2
    split at hb <;> omega) v
  have hr : ∀ v, (w1.setCell ⟨b, pick (l2.getD (k * 4 + 1) 0) 256, none⟩ v).ownsRow lo 36 3 u3 (k + 1) (ints (writesOf l2 (k + 1))) := fun v => ownsRow_setCell_other h.r (fun e => by
    have h1 := hr0 _ e
    simp at h1
    split at hb <;> omega) v
  by_cases h0 : pick (l2.getD (k * 4 + 2) 0) 2 = 0
  · rw [if_pos h0] at hb
    subst hb
    refine ⟨?_, ?_, hf _, hr _, h.low, h.gl, h.ul, h.ne, (by simpa using h.lh), h.below.setCell (Nat.le_refl _) _⟩
    · have := (h.x.stored (pick (l2.getD (k * 4 + 1) 0) 256) (.int .i64 (l2.getD (k * 4 + 3) 0))).1
      rw [ints_set] at this
      simp only [xyOf]
      rw [if_pos h0]
      exact this
    · simp only [xyOf]
      rw [if_pos h0]
      exact ownsRow_setCell_other h.y (by simp [Value.ownBlock]; omega) _
  · rw [if_neg h0] at hb
    subst hb
    refine ⟨?_, ?_, hf _, hr _, h.low, h.gl, h.ul, h.ne, (by simpa using h.lh), h.below.setCell hg0 _⟩
    · simp only [xyOf]
      rw [if_neg h0]
      exact ownsRow_setCell_other h.x (by simp [Value.ownBlock]; omega) _
    · have := (h.y.stored (pick (l2.getD (k * 4 + 1) 0) 256) (.int .i64 (l2.getD (k * 4 + 3) 0))).1
      rw [ints_set] at this
      simp only [xyOf]
      rw [if_neg h0]
      exact this
set_option maxHeartbeats 4000000 in
theorem apart_walk (w : World) (v1 v2 : Value) (n1 n2 : Nat) (l1 l2 : List Int) (h1 : RdF w 4 v1 n1 l1) (h2 : RdF w 4 v2 n2 l2) (b1 : ∀ z ∈ l1, (Lit.int .i64 z).wf = true) (b2 : ∀ z ∈ l2, (Lit.int .i64 z).wf = true) :
    Calls Try.prog 4 #[v1, v2] w fun e w' => e = .returned (.bool true) ∧ Below w.heap.size w w' := by
  obtain ⟨i2, hi2, hz20, hz21, hz22⟩ := info_parts info_2
  obtain ⟨i3, hi3, hz30, hz31, hz32⟩ := info_parts info_3
  have hmk1 : ∀ w : World, (Instr.makeSlice 24 (.int .i64 256) (.int .i64 256)).run Try.prog w = .ok (.slice (some ⟨w.heap.size, 0, none⟩) 256 256) (w.alloc (.cells (madeCells #[.int .i64 0] 256) 3)) := fun w => run_make_ints w 256 (by decide)
  have H1 := Lib.hid h1
  have H2 := Lib.hid h2
  have HB1 := Lib.hid b1
  have HB2 := Lib.hid b2
  obtain ⟨A1, c1, rfl, hl1, hc1, hm1, ha1⟩ := h1
  obtain ⟨A2, c2, rfl, hl2, hc2, hm2, ha2⟩ := h2
  have hm1' : c1 ≤ 9223372036854775807 := hm1
  have hm2' : c2 ≤ 9223372036854775807 := hm2
  have HL1 := Lib.hid hl1
  have HL2 := Lib.hid hl2
  clear hl1 hl2 ha1 ha2 b1 b2 hm1 hm2
  obtain ⟨K1, hK1⟩ : ∃ K, K = min n1 30 := ⟨_, rfl⟩
  have hk1 : K1 ≤ n1 := by omega
  have hk2 : K1 ≤ 30 := by omega
  have HK1 := Lib.hid hK1
  clear hK1
  go_enter Try.func4, Try.ntmps4
  go_upto_block 0 with fail
  have HS0 : Hid (S1 w (w.alloc (.cells (madeCells #[.int .i64 0] 256) 3)) l1 0 (.slice none 0 0)) := Lib.hid ⟨by
    have := made_own w w.heap.size 3 (.int .i64 0) 256 (Nat.le_refl _) (by decide)
    have e : ints (xOf l1 0) = List.replicate 256 (.int .i64 0) := by simp [xOf, ints]
    rw [e]
    exact this, World.ownsRow_nil _ _ _ _, by go_grown⟩
  go_cut [5] (fun u wc => Hid (S1 w wc l1 K1 u))
  case first =>
    go_wp2_with fail
    go_loopw [5, 8] (fun u i wr => ∃ k : Nat, k ≤ n1 ∧ k ≤ 30 ∧ i = .int .i64 k ∧ Hid (S1 w wr l1 k u)) (fun _ i _ => 30 - (intOf i).toNat)
    case atStart => exact ⟨0, Nat.zero_le _, Nat.zero_le _, rfl, HS0⟩
    case round =>
      obtain ⟨k, hk, hk30, rfl, HS⟩ := hrel
      clear HS0
      by_cases hlt : k < n1
      · by_cases hlt2 : k < 30
        · obtain ⟨A, c, e, hl, hc, hm, ha⟩ := H1.out
          cases e
          obtain ⟨b, o, rfl, hb, hcell⟩ := ha (by omega)
          have x1 := hcell (k * 4 + 1) (by omega)
          have x3 := hcell (k * 4 + 3) (by omega)
          have hr1 := wf_at HB1.out (k * 4 + 1) (by omega)
          obtain ⟨za, hza⟩ : ∃ z, l1.getD (k * 4 + 1) 0 = z := ⟨_, rfl⟩
          obtain ⟨zc, hzc⟩ : ∃ z, l1.getD (k * 4 + 3) 0 = z := ⟨_, rfl⟩
          rw [hza, ← Nat.add_assoc] at x1
          rw [hzc, ← Nat.add_assoc] at x3
          rw [hza] at hr1
          obtain ⟨p, hp⟩ : ∃ p, pick za 256 = p := ⟨_, rfl⟩
          have hp256 : p < 256 := by rw [← hp]; exact pick_lt _ _ (by decide)
          have HP : Hid (∀ W, Calls Try.prog 8 #[.int .i64 za, .int .i64 256] W fun e w' => e = .returned (.int .i64 (p : Nat)) ∧ W = w') := Lib.hid (fun W => by
            have := picked_any za 256 W hr1.1 hr1.2 (by decide) (by decide)
            rw [hp] at this
            exact this)
          have HST : Hid (∀ (w1 : World) (u1 : Value) (o : Obj), (wr.alloc o).drew.grownBy w1 u5.ownBlock → w1.ownsRow (w.heap.size + 1) 34 2 u1 (k + 1) (ints (firstOf l1 k) ++ [.int .i64 (p : Nat), .int .i64 zc]) →
              Below w.heap.size w w1 ∧ w1.ownsRow w.heap.size 3 1 (.slice (some ⟨w.heap.size, 0, none⟩) 256 256) 256 (ints (xOf l1 k)) ∧ S1 w (w1.setCell ⟨w.heap.size, p, none⟩ (.int .i64 zc)) l1 (k + 1) u1) := Lib.hid (fun w1 u1 o hg hown => by
            have := HS.out.step (u1 := u1) hg (by rw [hza, hzc, hp]; exact hown)
            rw [hza, hzc, hp] at this
            exact this)
          have x1' := ((bcell HS.out.below).1 b _ hb).trans x1
          have x3' := ((bcell HS.out.below).1 b _ hb).trans x3
          have hf := HS.out.f
          have hsz := HS.out.below.size
          have hbr : b < wr.heap.size := by omega
          have HF := Lib.hid hf
          clear hza hzc hp hr1 hcell ha hl hc hf
          have hk0 : (0 : Int) ≤ (k : Int) := Int.natCast_nonneg _
          have hk1' : (k : Int) < (n1 : Int) := by omega
          go_wp2_with fail
          go_region_law (first
            | (refine step_append_lies _ (by rfl) _ _ _ (by rfl) (w.heap.size + 1) 34 i2 _ 2 16 Try.underlying22 hi2 hz20 hz21 hz22 rfl (by omega) u5 k (ints (firstOf l1 k)) (by rfl) ((HF.out.alloc _).drew)
                ⟨wr.heap.size, 0, none⟩ 1 1 [.int .i64 (p : Nat), .int .i64 zc] (by rfl) (by rfl) (World.news_of_block (cs := #[.int .i64 (p : Nat), .int .i64 zc]) (t := 34) (fr := (0, 0)) (heap_alloc_new wr _)) (by simp [Value.oneCell'])
                (by omega) (by unfold maxLen; omega) (by omega) (by simp; omega) (wr.heap.size + 1) (by simp) ?_; intro gg cap w1 hown1 hgrow hat hlt)
            | (go_simp; go_at_call 8; refine (HP.out _).mono ?_; rintro e w2 ⟨rfl, rfl⟩))
          all_goals (
            have HW1 := Lib.hid (HST.out w1 (.slice (some ⟨gg, 0, none⟩) (k + 1) cap) _ hgrow hown1)
            have y1 := ((bcell HW1.out.1).1 b _ hb).trans x1
            have y3 := ((bcell HW1.out.1).1 b _ hb).trans x3
            have hX := HW1.out.2.1.cellAt p (by omega)
            have hXf := HW1.out.2.1.frozenAt p
            rw [ints_at _ p (by rw [xOf_len]; exact hp256)] at hX
            obtain ⟨zx, hzx⟩ : ∃ z, (xOf l1 k).getD p 0 = z := ⟨_, rfl⟩
            rw [hzx] at hX
            clear hzx hown1 hgrow hat
            go_wp2_with fail
            go_region_with (go_at_call 8; refine (HP.out _).mono ?_; rintro e w2 ⟨rfl, rfl⟩))
          all_goals (
            go_wp2_with fail
            go_roundw
            case rel => exact ⟨k + 1, by omega, by omega, by go_num, Lib.hid HW1.out.2.2.drew⟩
            case measure => simp [intOf]; omega)
        · go_wp2_with fail
          go_meet
          have e : k = K1 := by have := HK1.out; omega
          rw [← e]; exact HS
      · go_wp2_with fail
        go_meet
        have e : k = K1 := by have := HK1.out; omega
        rw [← e]; exact HS
  case rest =>
    clear HS0
    obtain ⟨u1, hu1⟩ : ∃ u, u = u5 := ⟨_, rfl⟩
    subst hu1
    have HCL : Hid (∀ W, Below wc.heap.size wc W → Calls Try.prog 9 #[.slice (some ⟨w.heap.size, 0, none⟩) 256 256] W fun e w' => ∃ g c, e = .returned (.slice (some ⟨g, 0, none⟩) 256 c) ∧ w'.ownsRow W.heap.size 3 1 (.slice (some ⟨g, 0, none⟩) 256 c) 256 (ints (xOf l1 K1)) ∧ Below W.heap.size W w') := Lib.hid (fun W hW => by
      have hr : RdI (fun b => w.heap.size ≤ b) W (.slice (some ⟨w.heap.size, 0, none⟩) 256 256) (xOf l1 K1) := by
        have := rd_of_own (own_below hcut.out.x hW)
        unfold RdI
        rw [xOf_len]
        exact this
      refine (clone_int_rd _ _ _ W W hr (Below.refl _ _) (by rw [xOf_len]; decide)).mono ?_
      rintro e w' ⟨A, c, rfl, ho, hb⟩
      rw [xOf_len] at ho
      obtain ⟨g, c', hg, _, _⟩ := own_slice ho (by decide)
      rw [xOf_len, hg]
      rw [hg] at ho
      exact ⟨g, c', rfl, ho, hb⟩)
    go_upto_block 2 with (
      go_at_call 9
      refine (HCL.out _ (Below.refl _ _)).mono ?_
      rintro e w2 ⟨g, cg, rfl, hog, hb2⟩)
    have HS0 : Hid (S2 w w2 g cg u1 K1 l1 w2.heap.size l2 0 (.slice none 0 0)) := Lib.hid (by
      have h := hcut.out
      have z1 := h.below.size
      have z2 := (hog.lt g rfl)
      have z3 := h.x.lt w.heap.size rfl
      have z4 := hb2.size
      exact ⟨own_below h.x hb2, own_base_le hog h.below.size, own_below h.f hb2, World.ownsRow_nil _ _ _ _, by omega, z2.2, fun b hb => by have := (h.f.lt b hb).2; exact ⟨by omega, by omega⟩, by omega, Nat.le_refl _, below_up' h.below hb2⟩)
    clear hcut HCL hog hb2
    generalize w2.heap.size = lo at *
    obtain ⟨K2, hK2⟩ : ∃ K, K = min n2 30 := ⟨_, rfl⟩
    have hk21 : K2 ≤ n2 := by omega
    have hk22 : K2 ≤ 30 := by omega
    have HK2 := Lib.hid hK2
    clear hK2
    go_cut [6] (fun u wd => Hid (S2 w wd g cg u1 K1 l1 lo l2 K2 u))
    case first =>
      go_wp2_with fail
      go_loopg [6, 10] 30 (fun gk u i wr => ∃ k : Nat, gk = 30 - k ∧ k ≤ n2 ∧ k ≤ 30 ∧ i = .int .i64 k ∧ Hid (S2 w wr g cg u1 K1 l1 lo l2 k u))
      case atStart => exact ⟨0, rfl, Nat.zero_le _, Nat.zero_le _, rfl, HS0⟩
      case round =>
        obtain ⟨k, rfl, hk, hk30, rfl, HS⟩ := hrel
        clear HS0
        by_cases hlt : k < n2
        · by_cases hlt2 : k < 30
          · obtain ⟨A, c, e, hl, hc, hm, ha⟩ := H2.out
            cases e
            obtain ⟨b, o, rfl, hb, hcell⟩ := ha (by omega)
            have x1 := ((bcell HS.out.below).1 b _ hb).trans (hcell (k * 4 + 1) (by omega))
            have x2 := ((bcell HS.out.below).1 b _ hb).trans (hcell (k * 4 + 2) (by omega))
            have x3 := ((bcell HS.out.below).1 b _ hb).trans (hcell (k * 4 + 3) (by omega))
            have hr1 := wf_at HB2.out (k * 4 + 1) (by omega)
            have hr2 := wf_at HB2.out (k * 4 + 2) (by omega)
            obtain ⟨za, hza⟩ : ∃ z, l2.getD (k * 4 + 1) 0 = z := ⟨_, rfl⟩
            obtain ⟨zb, hzb⟩ : ∃ z, l2.getD (k * 4 + 2) 0 = z := ⟨_, rfl⟩
            obtain ⟨zc, hzc⟩ : ∃ z, l2.getD (k * 4 + 3) 0 = z := ⟨_, rfl⟩
            rw [hza, ← Nat.add_assoc] at x1
            rw [hzb, ← Nat.add_assoc] at x2
            rw [hzc, ← Nat.add_assoc] at x3
            rw [hza] at hr1
            rw [hzb] at hr2
            obtain ⟨p, hp⟩ : ∃ p, pick za 256 = p := ⟨_, rfl⟩
            obtain ⟨q, hq⟩ : ∃ q, pick zb 2 = q := ⟨_, rfl⟩
            have hp256 : p < 256 := by rw [← hp]; exact pick_lt _ _ (by decide)
            have HP : Hid (∀ W, Calls Try.prog 8 #[.int .i64 za, .int .i64 256] W fun e w' => e = .returned (.int .i64 (p : Nat)) ∧ W = w') := Lib.hid (fun W => by
              have := picked_any za 256 W hr1.1 hr1.2 (by decide) (by decide)
              rw [hp] at this
              exact this)
            have HQ : Hid (∀ W, Calls Try.prog 8 #[.int .i64 zb, .int .i64 2] W fun e w' => e = .returned (.int .i64 (q : Nat)) ∧ W = w') := Lib.hid (fun W => by
              have := picked_any zb 2 W hr2.1 hr2.2 (by decide) (by decide)
              rw [hq] at this
              exact this)
            have HMID : Hid (∀ (w1 : World) (u3 : Value) (o : Obj), (wr.alloc o).drew.grownBy w1 u6.ownBlock → w1.ownsRow lo 36 3 u3 (k + 1) (ints (writesOf l2 k) ++ [.int .i64 (p : Nat), .int .i64 zc, .int .i64 (q : Nat)]) → S2m w w1 g cg u1 K1 l1 lo l2 k u3) := Lib.hid (fun w1 u3 o hg hown => HS.out.mid hg (by rw [hza, hzb, hzc, hp, hq]; exact hown))
            have HSTO : Hid (∀ (w1 : World) (u3 : Value) (bb : Nat), S2m w w1 g cg u1 K1 l1 lo l2 k u3 → (bb = if q = 0 then w.heap.size else g) → S2 w (w1.setCell ⟨bb, p, none⟩ (.int .i64 zc)) g cg u1 K1 l1 lo l2 (k + 1) u3) := Lib.hid (fun w1 u3 bb h hbb => by
              have := h.store bb (by rw [hzb, hq]; exact hbb)
              rw [hza, hzc, hp] at this
              exact this)
            have HR := Lib.hid HS.out.r
            have HLO := Lib.hid HS.out.lh
            have hk0 : (0 : Int) ≤ (k : Int) := Int.natCast_nonneg _
            have hk1' : (k : Int) < (n2 : Int) := by omega
            clear hza hzb hzc hp hq hr1 hr2 hcell ha hl hc HB1 HB2 H1
            go_upto_region 14 with (go_at_call 8; refine (HQ.out _).mono ?_; rintro e w2 ⟨rfl, rfl⟩)
            go_cut [6] (fun u wd => Hid (S2m w wd g cg u1 K1 l1 lo l2 k u))
            case first =>
              go_region_law (first
                | (refine step_append_lies _ (by rfl) _ _ _ (by rfl) lo 36 i3 _ 3 24 Try.underlying23 hi3 hz30 hz31 hz32 rfl (by omega) u6 k (ints (writesOf l2 k)) (by rfl) ((HR.out.alloc _).drew)
                    ⟨wr.heap.size, 0, none⟩ 1 1 [.int .i64 (p : Nat), .int .i64 zc, .int .i64 (q : Nat)] (by rfl) (by rfl) (World.news_of_block (cs := #[.int .i64 (p : Nat), .int .i64 zc, .int .i64 (q : Nat)]) (t := 36) (fr := (0, 0)) (heap_alloc_new wr _)) (by simp [Value.oneCell'])
                    (by omega) (by unfold maxLen; omega) (by omega) (by simp; have := HLO.out; omega) (wr.heap.size + 1) (by simp) ?_; intro gg cap w1 hown1 hgrow hat hlt)
                | (go_simp; go_at_call 8; refine (HP.out _).mono ?_; rintro e w2 ⟨rfl, rfl⟩))
              all_goals (go_wp2_with fail; go_meet)
              all_goals exact Lib.hid (HMID.out w1 _ _ hgrow hown1)
            case rest =>
              have y1 := ((bcell hcut.out.below).1 b _ hb).trans (((bcell HS.out.below).1 b _ hb).symm.trans x1)
              have y3 := ((bcell hcut.out.below).1 b _ hb).trans (((bcell HS.out.below).1 b _ hb).symm.trans x3)
              obtain ⟨lx, ly⟩ := xyOf_len l2 (xOf l1 K1) (xOf_len l1 K1) k
              have hX := hcut.out.x.cellAt p (by omega)
              have hXf := hcut.out.x.frozenAt p
              rw [ints_at _ p (by rw [lx]; exact hp256)] at hX
              have hY := hcut.out.y.cellAt p (by omega)
              have hYf := hcut.out.y.frozenAt p
              rw [ints_at _ p (by rw [ly]; exact hp256)] at hY
              obtain ⟨zx, hzx⟩ : ∃ z, (xyOf l2 (xOf l1 K1) k).1.getD p 0 = z := ⟨_, rfl⟩
              rw [hzx] at hX
              obtain ⟨zy, hzy⟩ : ∃ z, (xyOf l2 (xOf l1 K1) k).2.getD p 0 = z := ⟨_, rfl⟩
              rw [hzy] at hY
              clear hzx hzy x1 x2 x3 lx ly HS HR HMID
              by_cases hq0 : q = 0
              · have HS3 := Lib.hid (HSTO.out _ _ w.heap.size hcut.out (by rw [if_pos hq0]))
                subst hq0
                clear hcut HSTO
                go_wp2_with fail
                go_region_with (go_at_call 8; refine (HP.out _).mono ?_; rintro e w2 ⟨rfl, rfl⟩)
                all_goals (
                  go_wp2_with fail
                  go_roundg (30 - (k + 1))
                  case measure => omega
                  case rel => exact ⟨k + 1, by omega, by omega, by omega, by go_num, Lib.hid HS3.out.drew⟩)
              · have HS3 := Lib.hid (HSTO.out _ _ g hcut.out (by rw [if_neg hq0]))
                have hqb : (q == 0) = false := beq_eq_false_iff_ne.2 hq0
                have hqb2 : ((q : Int) == 0) = false := beq_eq_false_iff_ne.2 (by omega)
                clear hcut HSTO hq0
                go_wp2_with fail
                go_region_with (go_at_call 8; refine (HP.out _).mono ?_; rintro e w2 ⟨rfl, rfl⟩)
                all_goals (
                  go_wp2_with fail
                  go_roundg (30 - (k + 1))
                  case measure => omega
                  case rel => exact ⟨k + 1, by omega, by omega, by omega, by go_num, Lib.hid HS3.out.drew⟩)
          · go_wp2_with fail
            go_meet
            have e : k = K2 := by have := HK2.out; omega
            rw [← e]; exact HS
        · go_wp2_with fail
          go_meet
          have e : k = K2 := by have := HK2.out; omega
          rw [← e]; exact HS
    case rest =>
      clear HS0
      obtain ⟨known, hpl, hkn⟩ := apart_play l1 l2 K1 K2
      obtain ⟨lx, ly⟩ := xyOf_len l2 (xOf l1 K1) (xOf_len l1 K1) K2
      have HPL : Hid (Calls Try.prog 5 #[.int .i64 32, u1, u6] wc fun e w' => Below wc.heap.size wc w' ∧ ∃ ga gb, e = .returned (.tuple #[.slice (some ⟨ga, 0, none⟩) 256 256, .slice (some ⟨gb, 0, none⟩) 256 256, .int .i64 (known : Nat), .int .i64 0]) ∧
          w'.ownsRow wc.heap.size 3 1 (.slice (some ⟨ga, 0, none⟩) 256 256) 256 (ints (xyOf l2 (xOf l1 K1) K2).1) ∧ w'.ownsRow wc.heap.size 3 1 (.slice (some ⟨gb, 0, none⟩) 256 256) 256 (ints (xyOf l2 (xOf l1 K1) K2).2)) := Lib.hid (by
        have := play_ok wc 32 (by decide) u1 u6 K1 K2 (firstOf l1 K1) (writesOf l2 K2) (rdF_of_own (by decide) hcut.out.f) (rdF_of_own (by decide) hcut.out.r)
        rw [show (((32 : Nat)) : Int) = 32 from rfl, hpl] at this
        exact this)
      have HEQ : Hid (∀ (w3 W : World) (ga gb ca cb lo1 lo2 : Nat) (a : List Int), a.length = 256 → w3.ownsRow lo1 3 1 (.slice (some ⟨ga, 0, none⟩) 256 ca) 256 (ints a) → w3.ownsRow lo2 3 1 (.slice (some ⟨gb, 0, none⟩) 256 cb) 256 (ints a) → Below w3.heap.size w3 W →
          Calls Try.prog 10 #[.slice (some ⟨ga, 0, none⟩) 256 ca, .slice (some ⟨gb, 0, none⟩) 256 cb] W fun e w' => e = .returned (.bool true) ∧ Below W.heap.size W w') := Lib.hid (fun w3 W ga gb ca cb lo1 lo2 a ha h1 h2 hb => by
        refine equal_eq (fun b => lo1 ≤ b) (fun b => lo2 ≤ b) _ _ a W ?_ ?_ (by omega)
        · unfold RdI; rw [ha]; exact rd_of_own (own_below h1 hb)
        · unfold RdI; rw [ha]; exact rd_of_own (own_below h2 hb))
      have hkd : decide ((known : Int) ≤ 32) = true := decide_eq_true (by omega)
      have LX := Lib.hid lx
      have LY := Lib.hid ly
      clear hpl lx ly
      go_wp2_with (first
        | (
          go_at_call 5
          refine HPL.out.mono ?_
          rintro e w3 ⟨hb3, ga, gb, rfl, oa, ob⟩)
        | (
          go_at_call_of 10 (Value.slice (some ⟨ga, 0, none⟩) 256 256)
          refine (HEQ.out _ _ ga w.heap.size 256 256 _ _ _ LX.out oa (own_below hcut.out.x hb3) (Below.refl _ _)).mono ?_
          rintro e w4 ⟨rfl, hb4⟩)
        | (
          go_at_call_of 10 (Value.slice (some ⟨gb, 0, none⟩) 256 256)
          refine (HEQ.out _ _ gb g 256 cg _ _ _ LY.out ob (own_below hcut.out.y hb3) hb4).mono ?_
          rintro e w5 ⟨rfl, hb5⟩))
      go_ret
      exact ⟨rfl, below_up' (below_up' (below_up' hcut.out.below hb3) hb4) hb5⟩
end Go.Proofs.Ytipppemkcbgecaa
