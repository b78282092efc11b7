/- The second list of writes in the reference; what the reference answers. -/
import Derived.Test.YtipppemkcbgecaaPlC
open Go Go.RowKit
namespace Go.Proofs.Ytipppemkcbgecaa
structure RB where
  a : List Int
  b : List Int
  sh : List Bool
  oa : List Bool
  ob : List Bool
  known : Nat
/-- The word is written. -/
def RB.put (s : RB) (who : Bool) (k : Nat) (v : Int) : RB := if who then { s with b := s.b.set k v } else { s with a := s.a.set k v }
/-- The page is taken. -/
def RB.part (s : RB) (p : Nat) : RB := { s with sh := s.sh.set p false, oa := s.oa.set p true, ob := s.ob.set p true, known := s.known + 1 }
def RB.take (s : RB) (who : Bool) (p : Nat) : RB := if who then { s with ob := s.ob.set p true, known := s.known + 1 } else { s with oa := s.oa.set p true, known := s.known + 1 }
def RB.own (s : RB) (who : Bool) : List Bool := if who then s.ob else s.oa
def refStepB (n : Nat) (s : RB) (at_ v : Int) (who : Bool) : Except Int RB :=
  if 0 ≤ at_ ∧ at_ < 256 then
    if s.sh.getD (at_.toNat / 16) false = true then
      if s.known = n then .error 7 else .ok ((s.part (at_.toNat / 16)).put who at_.toNat v)
    else if (s.own who).getD (at_.toNat / 16) false = true then .ok (s.put who at_.toNat v)
    else if s.known = n then .error 7 else .ok ((s.take who (at_.toNat / 16)).put who at_.toNat v)
  else .error 2
def refB (n : Nat) (s0 : RB) (l : List Int) : Nat → Except Int RB
  | 0 => .ok s0
  | k + 1 => match refB n s0 l k with
    | .error e => .error e
    | .ok s => refStepB n s (l.getD (k * 3) 0) (l.getD (k * 3 + 1) 0) (!(l.getD (k * 3 + 2) 0 == 0))
def RB.start (a : List Int) (has : List Bool) (known : Nat) : RB := ⟨a, a, has, List.replicate 16 false, List.replicate 16 false, known⟩
def refOf (n : Int) (n1 : Nat) (l1 : List Int) (n2 : Nat) (l2 : List Int) : Except Int (List Int × List Int × Nat) :=
  if 0 ≤ n ∧ n ≤ 200 then
    match refA n.toNat l1 n1 with
    | .error e => .error e
    | .ok (a, has, known) => match refB n.toNat (RB.start a has known) l2 n2 with
      | .error e => .error e
      | .ok s => .ok (s.a, s.b, s.known)
  else .error 2
structure RelB (n : Nat) (f : Fr) (x y : List Int) (s : RB) : Prop where
  two : Two f x y
  len : f.refs.length = n
  alen : s.a.length = 256
  blen : s.b.length = 256
  slen : s.sh.length = 16
  oalen : s.oa.length = 16
  oblen : s.ob.length = 16
  wa : ∀ c, c < 256 → f.word x c = s.a.getD c 0
  wb : ∀ c, c < 256 → f.word y c = s.b.getD c 0
  sh : ∀ p, p < 16 → s.sh.getD p false = decide (0 ≤ x.getD p 0 ∧ x.getD p 0 = y.getD p 0)
  oa : ∀ p, p < 16 → s.sh.getD p false = false → s.oa.getD p false = decide (0 ≤ x.getD p 0)
  ob : ∀ p, p < 16 → s.sh.getD p false = false → s.ob.getD p false = decide (0 ≤ y.getD p 0)
  known : f.used = s.known
def RB.swap (s : RB) : RB := ⟨s.b, s.a, s.sh, s.ob, s.oa, s.known⟩
theorem RelB.swap {n : Nat} {f : Fr} {x y : List Int} {s : RB} (h : RelB n f x y s) : RelB n f y x s.swap :=
  ⟨h.two.swap, h.len, h.blen, h.alen, h.slen, h.oblen, h.oalen, h.wb, h.wa, fun p hp => by
    rw [show s.swap.sh = s.sh from rfl, h.sh p hp]
    exact decide_eq_decide.2 ⟨fun ⟨a, b⟩ => ⟨by omega, b.symm⟩, fun ⟨a, b⟩ => ⟨by omega, b.symm⟩⟩, h.ob, h.oa, h.known⟩
def SameB1 (n : Nat) (y : List Int) (r : Except Int (Fr × List Int)) (s : Except Int RB) : Prop :=
  match r, s with
  | .error x, .error y => x = y
  | .ok (f, x), .ok t => RelB n f x y t
  | _, _ => False
theorem RelB.step1 {n : Nat} {f : Fr} {x y : List Int} {s : RB} (h : RelB n f x y s) (at_ v : Int) : SameB1 n y (stepStore f x at_ v) (refStepB n s at_ v false) := by
  unfold stepStore refStepB
  by_cases ha : 0 ≤ at_ ∧ at_ < 256
  · rw [if_pos ha, if_pos ha]
    obtain ⟨k, rfl⟩ : ∃ k : Nat, at_ = k := ⟨at_.toNat, by omega⟩
    have e3 : ((k : Int)).toNat = k := by omega
    rw [e3]
    have hk : k < 256 := by omega
    have hp : k / 16 < 16 := by omega
    have hxl := h.two.inv.len x (by simp)
    have fresh : x.getD (k / 16) 0 < 0 ∨ 0 ≤ x.getD (k / 16) 0 ∧ x.getD (k / 16) 0 = y.getD (k / 16) 0 →
        (s.known = n → f.store x k v = none) ∧ (s.known ≠ n → ∃ f' i, f.store x k v = some (f', x.set (k / 16) ((i : Nat) : Int)) ∧ Two f' (x.set (k / 16) (i : Int)) y ∧ f'.used = s.known + 1 ∧ f'.refs.length = n ∧
          (y.getD (k / 16) 0 ≠ (i : Int)) ∧ (∀ c, c < 256 → f'.word (x.set (k / 16) (i : Int)) c = (s.a.set k v).getD c 0) ∧ (∀ c, c < 256 → f'.word y c = s.b.getD c 0)) := by
      intro hf
      obtain ⟨hn, hy⟩ := Inv.store_fresh (A := []) (B := [y]) h.two.inv hk v (hf.imp (fun x => x) (fun ⟨h1, h2⟩ => ⟨h1, by rw [h.two.refs hp h1, if_pos h2]; decide⟩))
      refine ⟨fun e => hn (by rw [h.known, h.len, e]), fun e => ?_⟩
      obtain ⟨f', i, hs, hi1, hi2, hu2⟩ := hy (by rw [h.known, h.len]; exact e)
      have hw := Inv.store_words (a := []) (b := [y]) h.two.inv hk hs
      have hi := Inv.store (a := []) (b := [y]) h.two.inv hk hs
      exact ⟨f', i, hs, h.two.put hi2 hi, by rw [hu2, h.known], (Fr.store_len hs).trans h.len, h.two.inv.free_apart (by simp) hp hi2, fun c hc => by rw [hw.1 c hc, getD_set_word _ _ _ _ h.alen hc, h.wa c hc], fun c hc => by rw [hw.2 y (by simp) c hc, h.wb c hc]⟩
    by_cases hs : s.sh.getD (k / 16) false = true
    · rw [if_pos hs]
      have hs2 := hs
      rw [h.sh _ hp] at hs2
      have hs3 := of_decide_eq_true hs2
      obtain ⟨hn, hy⟩ := fresh (.inr hs3)
      by_cases hu : s.known = n
      · rw [if_pos hu, hn hu]
        exact rfl
      · rw [if_neg hu]
        obtain ⟨f', i, hst, htwo, hus, hln, hyi, hwx, hwy⟩ := hy hu
        rw [hst]
        have gx : ∀ q, q < 16 → (x.set (k / 16) (i : Int)).getD q 0 = if k / 16 = q then (i : Int) else x.getD q 0 := fun q hq => getD_set' _ _ _ _ _ (by omega)
        refine ⟨htwo, hln, by simp [RB.put, RB.part, h.alen], h.blen, by simp [RB.put, RB.part, h.slen], by simp [RB.put, RB.part, h.oalen], by simp [RB.put, RB.part, h.oblen], hwx, hwy, fun q hq => ?_, fun q hq h1 => ?_, fun q hq h1 => ?_, hus⟩
        · show (s.sh.set (k / 16) false).getD q false = _
          rw [getD_set' _ _ _ _ _ (by rw [h.slen]; exact hq), gx q hq]
          split
          · rename_i e
            rw [← e, eq_comm, decide_eq_false_iff_not]
            exact fun ⟨_, h2⟩ => hyi h2.symm
          · exact h.sh q hq
        · change (s.sh.set (k / 16) false).getD q false = false at h1
          show (s.oa.set (k / 16) true).getD q false = _
          rw [getD_set' _ _ _ _ _ (by rw [h.slen]; exact hq)] at h1
          rw [getD_set' _ _ _ _ _ (by rw [h.oalen]; exact hq), gx q hq]
          split
          · simp
          · rename_i e
            rw [if_neg e] at h1
            exact h.oa q hq h1
        · change (s.sh.set (k / 16) false).getD q false = false at h1
          show (s.ob.set (k / 16) true).getD q false = _
          rw [getD_set' _ _ _ _ _ (by rw [h.slen]; exact hq)] at h1
          rw [getD_set' _ _ _ _ _ (by rw [h.oblen]; exact hq)]
          split
          · rename_i e
            rw [← e, eq_comm, decide_eq_true_iff]
            omega
          · rename_i e
            rw [if_neg e] at h1
            exact h.ob q hq h1
    · have hs1 : s.sh.getD (k / 16) false = false := by simpa using hs
      rw [if_neg hs]
      have hs2 := hs1
      rw [h.sh _ hp] at hs2
      have hs3 := of_decide_eq_false hs2
      have hoa := h.oa _ hp hs1
      by_cases ho : (s.own false).getD (k / 16) false = true
      · rw [if_pos ho]
        have ho2 : 0 ≤ x.getD (k / 16) 0 := by
          have : s.oa.getD (k / 16) false = true := ho
          rw [hoa] at this
          exact of_decide_eq_true this
        obtain ⟨f', hst, hus⟩ := Inv.store_old (A := []) (B := [y]) h.two.inv hk v ho2 (by rw [h.two.refs hp ho2, if_neg (fun e => hs3 ⟨ho2, e⟩)])
        rw [hst]
        have hw := Inv.store_words (a := []) (b := [y]) h.two.inv hk hst
        have hi := Inv.store (a := []) (b := [y]) h.two.inv hk hst
        exact ⟨⟨hi, h.two.xx, h.two.xy, h.two.yy⟩, (Fr.store_len hst).trans h.len, by simp [RB.put, h.alen], h.blen, h.slen, h.oalen, h.oblen, fun c hc => by rw [hw.1 c hc, show (s.put false k v).a = s.a.set k v from rfl, getD_set_word _ _ _ _ h.alen hc, h.wa c hc], fun c hc => by rw [hw.2 y (by simp) c hc]; exact h.wb c hc, h.sh, h.oa, h.ob, hus.trans h.known⟩
      · rw [if_neg ho]
        have ho2 : x.getD (k / 16) 0 < 0 := by
          have : s.oa.getD (k / 16) false = false := by simpa [RB.own] using ho
          rw [hoa] at this
          have := of_decide_eq_false this
          omega
        obtain ⟨hn, hy⟩ := fresh (.inl ho2)
        by_cases hu : s.known = n
        · rw [if_pos hu, hn hu]
          exact rfl
        · rw [if_neg hu]
          obtain ⟨f', i, hst, htwo, hus, hln, hyi, hwx, hwy⟩ := hy hu
          rw [hst]
          have gx : ∀ q, q < 16 → (x.set (k / 16) (i : Int)).getD q 0 = if k / 16 = q then (i : Int) else x.getD q 0 := fun q hq => getD_set' _ _ _ _ _ (by omega)
          refine ⟨htwo, hln, by simp [RB.put, RB.take, h.alen], h.blen, h.slen, by simp [RB.put, RB.take, h.oalen], h.oblen, hwx, hwy, fun q hq => ?_, fun q hq h1 => ?_, h.ob, hus⟩
          · show s.sh.getD q false = _
            rw [gx q hq]
            split
            · rename_i e
              rw [← e, hs1, eq_comm, decide_eq_false_iff_not]
              exact fun ⟨_, h2⟩ => hyi h2.symm
            · exact h.sh q hq
          · change s.sh.getD q false = false at h1
            show (s.oa.set (k / 16) true).getD q false = _
            rw [getD_set' _ _ _ _ _ (by rw [h.oalen]; exact hq), gx q hq]
            split
            · simp
            · exact h.oa q hq h1
  · rw [if_neg ha, if_neg ha]
    exact rfl
theorem refStepB_swap (n : Nat) (s : RB) (at_ v : Int) : refStepB n s at_ v true = (match refStepB n s.swap at_ v false with | .error e => .error e | .ok t => .ok t.swap) := by
  unfold refStepB
  have e1 : s.swap.sh = s.sh := rfl
  have e2 : s.swap.own false = s.own true := rfl
  have e3 : s.swap.known = s.known := rfl
  rw [e1, e2, e3]
  split
  · split
    · split <;> rfl
    · split
      · rfl
      · split <;> rfl
  · rfl
/-- The two ways of a second write. -/
def SameB (n : Nat) (r : Except Int (Fr × List Int × List Int)) (s : Except Int RB) : Prop :=
  match r, s with
  | .error x, .error y => x = y
  | .ok (f, x, y), .ok t => RelB n f x y t
  | _, _ => False
theorem RelB.stepA {n : Nat} {f : Fr} {x y : List Int} {s : RB} (h : RelB n f x y s) (at_ v : Int) :
    SameB n (match stepStore f x at_ v with | .error e => .error e | .ok (g, q) => .ok (g, q, y)) (refStepB n s at_ v false) := by
  have := h.step1 at_ v
  revert this
  generalize stepStore f x at_ v = r
  generalize refStepB n s at_ v false = t
  intro this
  rcases r with e | ⟨g, q⟩ <;> rcases t with e2 | t
  all_goals exact this
theorem RelB.stepB {n : Nat} {f : Fr} {x y : List Int} {s : RB} (h : RelB n f x y s) (at_ v : Int) :
    SameB n (match stepStore f y at_ v with | .error e => .error e | .ok (g, q) => .ok (g, x, q)) (refStepB n s at_ v true) := by
  have := h.swap.step1 at_ v
  rw [refStepB_swap]
  revert this
  generalize stepStore f y at_ v = r
  generalize refStepB n s.swap at_ v false = t
  intro this
  rcases r with e | ⟨g, q⟩ <;> rcases t with e2 | t
  · exact this
  · exact this
  · exact this
  · exact RelB.swap this
theorem relB (n : Nat) (f : Fr) (pg : List Int) (s0 : RB) (l : List Int) (h0 : RelB n f pg pg s0) : ∀ k, SameB n (playB f pg pg l k) (refB n s0 l k)
  | 0 => h0
  | k + 1 => by
    have ih := relB n f pg s0 l h0 k
    simp only [playB, refB]
    revert ih
    generalize playB f pg pg l k = r
    generalize refB n s0 l k = s
    intro ih
    rcases r with x | ⟨g, qa, qb⟩
    · rcases s with y | t
      · exact ih
      · exact ih.elim
    · rcases s with y | t
      · exact ih.elim
      · simp only []
        generalize l.getD (k * 3 + 2) 0 = z
        by_cases hw : z = 0
        · have e : (!(z == 0)) = false := by simp [hw]
          rw [e, if_pos hw]
          exact RelB.stepA ih _ _
        · have e : (!(z == 0)) = true := by simp [hw]
          rw [e, if_neg hw]
          exact RelB.stepB ih _ _
theorem words_eq {f : Fr} {x a : List Int} (hl : a.length = 256) (h : ∀ c, c < 256 → f.word x c = a.getD c 0) : f.words x = a := by
  apply List.ext_getElem (by simp [Fr.words, hl])
  intro i h1 h2
  have := h i (by omega)
  simp only [Fr.words, List.getElem_map, List.getElem_range, this]
  rw [List.getD_eq_getElem?_getD, List.getElem?_eq_getElem h2]; rfl
theorem shareN_used {f : Fr} {pg : List Int} (h : One f pg) : (f.shareN pg 16).used = f.used := by
  have hl := h.inv.len pg (by simp)
  have e : ∀ i, i < f.refs.length → (0 < (f.shareN pg 16).refs.getD i 0 ↔ 0 < f.refs.getD i 0) := by
    intro i hi
    rw [shareN_count f pg hl i hi (h.inv.page pg (by simp)) 16 (Nat.le_refl _), List.take_of_length_le (by omega), h.inv.refs i hi]
    simp only [cnt, List.map_cons, List.map_nil, List.sum_cons, List.sum_nil]
    omega
  have key : ∀ (l m : List Int), l.length = m.length → (∀ i, i < m.length → (0 < l.getD i 0 ↔ 0 < m.getD i 0)) → (l.filter (fun x => decide (0 < x))).length = (m.filter (fun x => decide (0 < x))).length := by
    intro l
    induction l with
    | nil => intro m hm _; have : m = [] := List.eq_nil_of_length_eq_zero hm.symm; subst this; rfl
    | cons y l ih =>
      intro m hm hh
      rcases m with _ | ⟨z, m⟩
      · simp at hm
      · have h1 := ih m (by simpa using hm) (fun i hi => by have := hh (i + 1) (by simpa using hi); simpa using this)
        have h2 := hh 0 (by simp)
        simp only [List.getD_cons_zero] at h2
        simp only [List.filter_cons]
        by_cases hz : 0 < z
        · have hy := h2.2 hz
          simp only [hy, hz, decide_true, if_true, List.length_cons, h1]
        · have hy : ¬ 0 < y := fun hy => hz (h2.1 hy)
          simp only [hy, hz, decide_false]
          simpa using h1
  unfold Fr.used
  exact key _ _ (f.shareN_len pg 16) e
theorem playOf_eq (n : Int) (n1 : Nat) (l1 : List Int) (n2 : Nat) (l2 : List Int) : playOf n n1 l1 n2 l2 = refOf n n1 l1 n2 l2 := by
  unfold playOf refOf
  by_cases h : 0 ≤ n ∧ n ≤ 200
  · rw [if_pos h, if_pos h]
    have hn : n.toNat ≤ 200 := by omega
    have hA := relA n.toNat hn l1 n1
    revert hA
    generalize playA (Fr.fresh n.toNat) l1 n1 = r
    generalize refA n.toNat l1 n1 = s
    intro hA
    rcases r with x | ⟨f, pg⟩
    · rcases s with y | ⟨a, has, known⟩
      · have : x = y := hA
        rw [this]
      · exact hA.elim
    · rcases s with y | ⟨a, has, known⟩
      · exact hA.elim
      · have hR : RelA n.toNat f pg a has known := hA
        have h0 : RelB n.toNat (f.shareN pg 16) pg pg (RB.start a has known) := by
          refine ⟨⟨Inv.fork (b := []) hR.one.inv hR.one.inv.low, hR.one.xx, hR.one.xx, hR.one.xx⟩, (f.shareN_len pg 16).trans hR.len, hR.alen, hR.alen, hR.hlen, by simp [RB.start], by simp [RB.start], fun c hc => by rw [shareN_word]; exact hR.word c hc, fun c hc => by rw [shareN_word]; exact hR.word c hc, fun p hp => ?_, fun p hp h1 => ?_, fun p hp h1 => ?_, ?_⟩
          · show has.getD p false = _
            rw [hR.has p hp]
            simp
          · change has.getD p false = false at h1
            rw [hR.has p hp] at h1
            rw [h1]
            exact getD_replicate 16 p _ _ hp
          · change has.getD p false = false at h1
            rw [hR.has p hp] at h1
            rw [h1]
            exact getD_replicate 16 p _ _ hp
          · rw [shareN_used hR.one]
            exact hR.known
        have hB := relB n.toNat _ pg _ l2 h0 n2
        simp only []
        revert hB
        generalize playB (f.shareN pg 16) pg pg l2 n2 = r
        generalize refB n.toNat (RB.start a has known) l2 n2 = s
        intro hB
        rcases r with x | ⟨g, qa, qb⟩
        · rcases s with y | t
          · have : x = y := hB
            rw [this]
          · exact hB.elim
        · rcases s with y | t
          · exact hB.elim
          · have hR2 : RelB n.toNat g qa qb t := hB
            simp only [words_eq hR2.alen hR2.wa, words_eq hR2.blen hR2.wb, hR2.known]
  · rw [if_neg h, if_neg h]
end Go.Proofs.Ytipppemkcbgecaa
