/- The driver SpacesApart: what it makes of raw things, as functions; picked; slices.Equal. -/
import Derived.Test.YtipppemkcbgecaaRefD
import Derived.Test.YtipppemkcbgecaaRoom
import Derived.Deep.AppendLies
import Derived.Deep.RegionHeldLaw
open Go Go.RowKit
namespace Go.Proofs.Ytipppemkcbgecaa
/-- A number from 0 to m - 1. -/
def pick (n : Int) (m : Nat) : Nat := if n < 0 then (-(n + 1)).toNat % m else n.toNat % m
theorem pick_lt (n : Int) (m : Nat) (hm : 0 < m) : pick n m < m := by
  unfold pick
  split <;> exact Nat.mod_lt _ hm
set_option maxRecDepth 100000
/-- keep.picked. -/
theorem picked_any (n : Int) (m : Nat) (w : World) (h1 : -9223372036854775808 ≤ n) (h2 : n ≤ 9223372036854775807) (hm : 0 < m) (hm2 : m ≤ 100000) :
    Calls Try.prog 8 #[.int .i64 n, .int .i64 m] w fun e w' => e = .returned (.int .i64 (pick n m : Nat)) ∧ w = w' := by
  by_cases h0 : n < 0
  · have hd : decide (n < 0) = true := decide_eq_true h0
    have hw1 : IntKind.i64.wrap (n + 1) = n + 1 := i64w _ (by omega) (by omega)
    have hw2 : IntKind.i64.wrap (-(n + 1)) = -(n + 1) := i64w _ (by omega) (by omega)
    have hz : ((m : Int) == 0) = false := beq_eq_false_iff_ne.2 (by omega)
    have HE : Hid (-((n + 1).tmod (m : Int)) = ((pick n m : Nat) : Int)) := Lib.hid (by
      rw [← Int.neg_tmod, Int.tmod_eq_emod_of_nonneg (by omega)]
      unfold pick
      rw [if_pos h0, Int.natCast_emod, Int.toNat_of_nonneg (by omega)])
    go_enter Try.func8, Try.ntmps8
    go_wp2
    go_ret
    exact ⟨by rw [← HE.out]; rfl, rfl⟩
  · have hd : decide (n < 0) = false := decide_eq_false h0
    have hz : ((m : Int) == 0) = false := beq_eq_false_iff_ne.2 (by omega)
    have HE2 : Hid (n % (m : Int) = ((pick n m : Nat) : Int)) := Lib.hid (by
      unfold pick
      rw [if_neg h0, Int.natCast_emod, Int.toNat_of_nonneg (by omega)])
    have hn0 : 0 ≤ n := by omega
    go_enter Try.func8, Try.ntmps8
    go_wp2
    go_ret
    exact ⟨by rw [← HE2.out]; rfl, rfl⟩
set_option maxHeartbeats 1000000 in
/-- slices.Equal of two lists that are equal (not empty). -/
theorem equal_eq (p q : Nat → Prop) (u v : Value) (l : List Int) (w : World) (h1 : RdI p w u l) (h2 : RdI q w v l) (hn : 0 < l.length) :
    Calls Try.prog 10 #[u, v] w fun e w' => e = .returned (.bool true) ∧ Below w.heap.size w w' := by
  obtain ⟨b, o, c, rfl, hc1, hm1, _, hx⟩ := h1.at_ hn
  obtain ⟨b', o', c', rfl, hc2, hm2, _, hx'⟩ := h2.at_ hn
  obtain ⟨n, hnn⟩ : ∃ n, l.length = n := ⟨_, rfl⟩
  rw [hnn] at hc1 hc2 hn ⊢
  have hmax : n ≤ 9223372036854775807 := Nat.le_trans hc1 hm1
  have HN := Lib.hid hnn
  have HX := Lib.hid hx
  have HX' := Lib.hid hx'
  clear hnn hx hx' h1 h2
  go_enter Try.func10, Try.ntmps10
  go_wp2
  go_loopw [13] (fun i wr => ∃ k : Nat, k ≤ n ∧ i = .int .i64 k ∧ Hid (Below w.heap.size w wr)) (fun i _ => n - (intOf i).toNat)
  case atStart => exact ⟨0, Nat.zero_le _, rfl, Lib.hid (Below.refl _ _)⟩
  case round =>
    obtain ⟨k, hk, rfl, HB⟩ := hrel
    obtain ⟨hcl, hfr⟩ := bcell HB.out
    by_cases hlt : k < n
    · have x1 := HX.out k (by rw [HN.out]; exact hlt)
      have x2 := HX'.out k (by rw [HN.out]; exact hlt)
      obtain ⟨z, hz⟩ : ∃ z, l.getD k 0 = z := ⟨_, rfl⟩
      rw [hz] at x1 x2
      clear hz
      have x1' := (hcl _ _ (World.block_lt_of_cell? w _ x1)).trans x1
      have x2' := (hcl _ _ (World.block_lt_of_cell? w _ x2)).trans x2
      clear hcl hfr
      go_wp2_with fail
      go_region
      all_goals go_wp2
      go_roundw
      case rel => exact ⟨k + 1, by omega, by go_num, Lib.hid HB.out.drew⟩
      case measure => simp [intOf]; omega
    · go_wp2_with fail
      go_ret
      exact ⟨rfl, HB.out⟩
/-- The lists of writes that the driver makes of k raw things, and what it expects. -/
def firstOf (l : List Int) : Nat → List Int
  | 0 => []
  | k + 1 => firstOf l k ++ [((pick (l.getD (k * 4 + 1) 0) 256 : Nat) : Int), l.getD (k * 4 + 3) 0]
def xOf (l : List Int) : Nat → List Int
  | 0 => List.replicate 256 0
  | k + 1 => (xOf l k).set (pick (l.getD (k * 4 + 1) 0) 256) (l.getD (k * 4 + 3) 0)
def writesOf (l : List Int) : Nat → List Int
  | 0 => []
  | k + 1 => writesOf l k ++ [((pick (l.getD (k * 4 + 1) 0) 256 : Nat) : Int), l.getD (k * 4 + 3) 0, ((pick (l.getD (k * 4 + 2) 0) 2 : Nat) : Int)]
def xyOf (l : List Int) (x : List Int) : Nat → List Int × List Int
  | 0 => (x, x)
  | k + 1 => if pick (l.getD (k * 4 + 2) 0) 2 = 0 then ((xyOf l x k).1.set (pick (l.getD (k * 4 + 1) 0) 256) (l.getD (k * 4 + 3) 0), (xyOf l x k).2)
    else ((xyOf l x k).1, (xyOf l x k).2.set (pick (l.getD (k * 4 + 1) 0) 256) (l.getD (k * 4 + 3) 0))
theorem firstOf_len (l : List Int) : ∀ k, (firstOf l k).length = k * 2
  | 0 => rfl
  | k + 1 => by simp only [firstOf, List.length_append, firstOf_len l k]; simp; omega
theorem writesOf_len (l : List Int) : ∀ k, (writesOf l k).length = k * 3
  | 0 => rfl
  | k + 1 => by simp only [writesOf, List.length_append, writesOf_len l k]; simp; omega
theorem xOf_len (l : List Int) : ∀ k, (xOf l k).length = 256
  | 0 => List.length_replicate
  | k + 1 => by simp only [xOf, List.length_set, xOf_len l k]
theorem xyOf_len (l x : List Int) (hx : x.length = 256) : ∀ k, (xyOf l x k).1.length = 256 ∧ (xyOf l x k).2.length = 256
  | 0 => ⟨hx, hx⟩
  | k + 1 => by
    have := xyOf_len l x hx k
    simp only [xyOf]
    split <;> simp [this]
theorem getD_append_left {α : Type} (a b : List α) (i : Nat) (d : α) (h : i < a.length) : (a ++ b).getD i d = a.getD i d := by
  simp [List.getD_eq_getElem?_getD, List.getElem?_append_left h]
theorem getD_append_right {α : Type} (a b : List α) (i : Nat) (d : α) : (a ++ b).getD (a.length + i) d = b.getD i d := by
  rw [List.getD_eq_getElem?_getD, List.getElem?_append_right (by omega), List.getD_eq_getElem?_getD, Nat.add_sub_cancel_left]
theorem firstOf_at (l : List Int) (k : Nat) : ∀ n, k < n → (firstOf l n).getD (k * 2) 0 = ((pick (l.getD (k * 4 + 1) 0) 256 : Nat) : Int) ∧ (firstOf l n).getD (k * 2 + 1) 0 = l.getD (k * 4 + 3) 0
  | 0, h => by omega
  | n + 1, h => by
    have hl := firstOf_len l n
    simp only [firstOf]
    by_cases hk : k < n
    · have := firstOf_at l k n hk
      rw [getD_append_left _ _ _ _ (by omega), getD_append_left _ _ _ _ (by omega)]
      exact this
    · obtain rfl : k = n := by omega
      have e1 := getD_append_right (firstOf l k) [((pick (l.getD (k * 4 + 1) 0) 256 : Nat) : Int), l.getD (k * 4 + 3) 0] 0 0
      have e2 := getD_append_right (firstOf l k) [((pick (l.getD (k * 4 + 1) 0) 256 : Nat) : Int), l.getD (k * 4 + 3) 0] 1 0
      rw [hl] at e1 e2
      exact ⟨e1, e2⟩
theorem writesOf_at (l : List Int) (k : Nat) : ∀ n, k < n → (writesOf l n).getD (k * 3) 0 = ((pick (l.getD (k * 4 + 1) 0) 256 : Nat) : Int) ∧ (writesOf l n).getD (k * 3 + 1) 0 = l.getD (k * 4 + 3) 0 ∧ (writesOf l n).getD (k * 3 + 2) 0 = ((pick (l.getD (k * 4 + 2) 0) 2 : Nat) : Int)
  | 0, h => by omega
  | n + 1, h => by
    have hl := writesOf_len l n
    simp only [writesOf]
    by_cases hk : k < n
    · have := writesOf_at l k n hk
      rw [getD_append_left _ _ _ _ (by omega), getD_append_left _ _ _ _ (by omega), getD_append_left _ _ _ _ (by omega)]
      exact this
    · obtain rfl : k = n := by omega
      have e1 := getD_append_right (writesOf l k) [((pick (l.getD (k * 4 + 1) 0) 256 : Nat) : Int), l.getD (k * 4 + 3) 0, ((pick (l.getD (k * 4 + 2) 0) 2 : Nat) : Int)] 0 0
      have e2 := getD_append_right (writesOf l k) [((pick (l.getD (k * 4 + 1) 0) 256 : Nat) : Int), l.getD (k * 4 + 3) 0, ((pick (l.getD (k * 4 + 2) 0) 2 : Nat) : Int)] 1 0
      have e3 := getD_append_right (writesOf l k) [((pick (l.getD (k * 4 + 1) 0) 256 : Nat) : Int), l.getD (k * 4 + 3) 0, ((pick (l.getD (k * 4 + 2) 0) 2 : Nat) : Int)] 2 0
      rw [hl] at e1 e2 e3
      exact ⟨e1, e2, e3⟩
theorem step_some {f f' : Fr} {pg pg' : List Int} {a : Nat} (ha : a < 256) {v : Int} (h : f.store pg a v = some (f', pg')) : stepStore f pg (a : Nat) v = .ok (f', pg') := by
  unfold stepStore
  rw [if_pos (by omega), show ((a : Int)).toNat = a by omega, h]
theorem apartA (l : List Int) (n : Nat) : ∀ k, k ≤ n → ∃ f pg, playA (Fr.fresh 32) (firstOf l n) k = .ok (f, pg) ∧ Inv f [pg] ∧ f.refs.length = 32 ∧ ∀ c, c < 256 → f.word pg c = (xOf l k).getD c 0
  | 0, _ => by
    refine ⟨_, _, rfl, Inv.fresh 32 (by decide), by simp [Fr.fresh], fun c hc => ?_⟩
    rw [show (xOf l 0).getD c 0 = 0 from getD_replicate 256 c _ _ hc]
    unfold Fr.word
    rw [getD_replicate 16 (c / 16) _ _ (by omega), if_pos (by decide)]
  | k + 1, hk => by
    obtain ⟨f, pg, h1, h2, h3, h4⟩ := apartA l n k (by omega)
    obtain ⟨e1, e2⟩ := firstOf_at l k n (by omega)
    have hp := pick_lt (l.getD (k * 4 + 1) 0) 256 (by decide)
    obtain ⟨f', pg', hs⟩ := Inv.store_some (a := []) (b := []) h2 (by simp; omega) hp (l.getD (k * 4 + 3) 0)
    refine ⟨f', pg', ?_, Inv.store (a := []) (b := []) h2 hp hs, (Fr.store_len hs).trans h3, fun c hc => ?_⟩
    · simp only [playA]
      rw [h1]
      simp only [e1, e2]
      exact step_some hp hs
    · rw [(Inv.store_words (a := []) (b := []) h2 hp hs).1 c hc]
      simp only [xOf]
      rw [getD_set_word _ _ _ _ (xOf_len l k) hc, h4 c hc]
theorem apartB (l : List Int) (n : Nat) (x : List Int) (hx : x.length = 256) (f : Fr) (pg : List Int) (hi : Inv f [pg, pg]) (hl : f.refs.length = 32) (hw : ∀ c, c < 256 → f.word pg c = x.getD c 0) : ∀ k, k ≤ n →
    ∃ g qa qb, playB f pg pg (writesOf l n) k = .ok (g, qa, qb) ∧ Inv g [qa, qb] ∧ g.refs.length = 32 ∧ (∀ c, c < 256 → g.word qa c = (xyOf l x k).1.getD c 0) ∧ (∀ c, c < 256 → g.word qb c = (xyOf l x k).2.getD c 0)
  | 0, _ => ⟨f, pg, pg, rfl, hi, hl, hw, hw⟩
  | k + 1, hk => by
    obtain ⟨g, qa, qb, h1, h2, h3, h4, h5⟩ := apartB l n x hx f pg hi hl hw k (by omega)
    obtain ⟨e1, e2, e3⟩ := writesOf_at l k n (by omega)
    have hp := pick_lt (l.getD (k * 4 + 1) 0) 256 (by decide)
    obtain ⟨l1, l2⟩ := xyOf_len l x hx k
    by_cases hw0 : pick (l.getD (k * 4 + 2) 0) 2 = 0
    · obtain ⟨g', q, hs⟩ := Inv.store_some (a := []) (b := [qb]) h2 (by simp; omega) hp (l.getD (k * 4 + 3) 0)
      have hsw := Inv.store_words (a := []) (b := [qb]) h2 hp hs
      refine ⟨g', q, qb, ?_, Inv.store (a := []) (b := [qb]) h2 hp hs, (Fr.store_len hs).trans h3, fun c hc => ?_, fun c hc => ?_⟩
      · simp only [playB]
        rw [h1]
        simp only [e1, e2, e3]
        rw [if_pos (by omega), step_some hp hs]
      · rw [hsw.1 c hc]
        simp only [xyOf]
        rw [if_pos hw0, getD_set_word _ _ _ _ l1 hc, h4 c hc]
      · rw [hsw.2 qb (by simp) c hc]
        simp only [xyOf]
        rw [if_pos hw0]
        exact h5 c hc
    · obtain ⟨g', q, hs⟩ := Inv.store_some (a := [qa]) (b := []) h2 (by simp; omega) hp (l.getD (k * 4 + 3) 0)
      have hsw := Inv.store_words (a := [qa]) (b := []) h2 hp hs
      refine ⟨g', qa, q, ?_, Inv.store (a := [qa]) (b := []) h2 hp hs, (Fr.store_len hs).trans h3, fun c hc => ?_, fun c hc => ?_⟩
      · simp only [playB]
        rw [h1]
        simp only [e1, e2, e3]
        rw [if_neg (by omega), step_some hp hs]
      · rw [hsw.2 qa (by simp) c hc]
        simp only [xyOf]
        rw [if_neg hw0]
        exact h4 c hc
      · rw [hsw.1 c hc]
        simp only [xyOf]
        rw [if_neg hw0, getD_set_word _ _ _ _ l2 hc, h5 c hc]
/-- What Play answers to the driver. -/
theorem apart_play (l m : List Int) (n1 n2 : Nat) : ∃ known, playOf 32 n1 (firstOf l n1) n2 (writesOf m n2) = .ok ((xyOf m (xOf l n1) n2).1, (xyOf m (xOf l n1) n2).2, known) ∧ known ≤ 32 := by
  obtain ⟨f, pg, h1, h2, h3, h4⟩ := apartA l n1 n1 (Nat.le_refl _)
  obtain ⟨g, qa, qb, h5, h6, h7, h8, h9⟩ := apartB m n2 (xOf l n1) (xOf_len l n1) (f.shareN pg 16) pg (h2.fork h2.low) ((f.shareN_len pg 16).trans h3) (fun c hc => by rw [shareN_word]; exact h4 c hc) n2 (Nat.le_refl _)
  obtain ⟨l1, l2⟩ := xyOf_len m (xOf l n1) (xOf_len l n1) n2
  refine ⟨g.used, ?_, ?_⟩
  · unfold playOf
    rw [if_pos (by decide)]
    rw [show ((32 : Int)).toNat = 32 from rfl, h1]
    simp only []
    rw [h5]
    simp only [words_eq l1 h8, words_eq l2 h9]
  · unfold Fr.used
    exact Nat.le_trans (List.length_filter_le _ _) (by omega)
theorem rdF_of_own {w : World} {base : Nat} {e : TypeId} {k : Nat} {v : Value} {n : Nat} {l : List Int} (hk : 0 < k) (h : w.ownsRow base e k v n (ints l)) : RdF w k v n l := by
  have hl : l.length = n * k := by have := h.1; rwa [ints_len] at this
  obtain ⟨A, c, rfl, _, h3, h4, h5, h6, h7⟩ := RdK.in_heap (rd_of_own h) hk
  refine ⟨A, c, rfl, hl, h3, h4, fun hn => ?_⟩
  obtain ⟨b, o, e, hp, hc⟩ := h7 hn
  exact ⟨b, o, e, hp.2, fun j hj => hc j _ (ints_at l j (by omega))⟩
end Go.Proofs.Ytipppemkcbgecaa
