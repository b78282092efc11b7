/- What the reference's PlayedOf answers, as a function: it is what Play answers. -/
import Derived.Test.YtipppemkcbgecaaPlA
open Go Go.RowKit
namespace Go.Proofs.Ytipppemkcbgecaa
theorem Fr.used_take {f : Fr} {i : Nat} (hi : i < f.refs.length) (h0 : f.refs.getD i 0 = 0) : (f.take i).used = f.used + 1 := by
  have := used_set f.refs i 1 hi
  unfold Fr.used
  rw [Fr.refs_take]
  rw [h0] at this
  simp at this
  omega
theorem Fr.used_part {f : Fr} {n i : Nat} (hn : n < f.refs.length) (hi : i < f.refs.length) (h0 : f.refs.getD i 0 = 0) (h1 : 1 < f.refs.getD n 0) : (f.part n i).used = f.used + 1 := by
  have a := used_set f.refs n (f.refs.getD n 0 - 1) hn
  have b := used_set (f.refs.set n (f.refs.getD n 0 - 1)) i 1 (by simpa using hi)
  have hne : n ≠ i := fun e => by subst e; omega
  rw [getD_set' _ _ _ _ _ hi, if_neg hne, h0] at b
  unfold Fr.used
  rw [Fr.refs_part]
  rw [if_pos (by omega), if_pos (by omega)] at a
  rw [if_neg (by decide), if_pos (by decide)] at b
  omega
theorem set_same (pg : List Int) (p : Nat) (hp : p < pg.length) (x : Int) (h : pg.getD p 0 = x) : pg.set p x = pg := by
  subst h
  rw [List.getD_eq_getElem?_getD, List.getElem?_eq_getElem hp]
  exact List.set_getElem_self hp
/-- A page that is in no frame, or in one that others know: a new frame is taken, or there is none. -/
theorem Inv.store_fresh {f : Fr} {A B : List (List Int)} {pg : List Int} (h : Inv f (A ++ pg :: B)) {a : Nat} (ha : a < 256) (x : Int) (hf : pg.getD (a / 16) 0 < 0 ∨ 0 ≤ pg.getD (a / 16) 0 ∧ 1 < f.refs.getD (pg.getD (a / 16) 0).toNat 0) :
    (f.used = f.refs.length → f.store pg a x = none) ∧
    (f.used ≠ f.refs.length → ∃ f' i, f.store pg a x = some (f', pg.set (a / 16) ((i : Nat) : Int)) ∧ i < f.refs.length ∧ f.refs.getD i 0 = 0 ∧ f'.used = f.used + 1) := by
  have hm : pg ∈ A ++ pg :: B := by simp
  have hpl := h.len pg hm
  have hp : a / 16 < 16 := by omega
  constructor
  · intro hu
    have hn := h.ok.free_iff.2 hu
    unfold Fr.store Fr.grab
    by_cases h0 : pg.getD (a / 16) 0 < 0
    · rw [if_pos h0, hn]
    · rw [if_neg h0]
      have h1 : f.refs.getD (pg.getD (a / 16) 0).toNat 0 ≠ 1 := by omega
      simp only [Fr.write]
      rw [if_neg h1, hn]
  · intro hu
    cases hn : f.free with
    | none => exact absurd (h.ok.free_iff.1 hn) hu
    | some i =>
      obtain ⟨_, hi1, hi2⟩ := Fr.free_some hn
      unfold Fr.store Fr.grab
      by_cases h0 : pg.getD (a / 16) 0 < 0
      · rw [if_pos h0, hn]
        have e1 : (pg.set (a / 16) (i : Int)).getD (a / 16) 0 = i := by rw [getD_set' _ _ _ _ _ (by omega), if_pos rfl]
        have e2 : ((i : Int)).toNat = i := by omega
        have e3 : (f.take i).refs.getD i 0 = 1 := by rw [Fr.refs_take, getD_set' _ _ _ _ _ hi1, if_pos rfl]
        simp only [e1, e2, Fr.write, e3, if_true, List.set_set]
        exact ⟨_, i, rfl, hi1, hi2, Fr.used_take hi1 hi2⟩
      · rw [if_neg h0]
        have h1 : 1 < f.refs.getD (pg.getD (a / 16) 0).toNat 0 := by omega
        have h2 : f.refs.getD (pg.getD (a / 16) 0).toNat 0 ≠ 1 := by omega
        rcases h.pgOk hm (a / 16) hp with h3 | ⟨_, h4, _⟩
        · omega
        simp only [Fr.write]
        rw [if_neg h2, hn]
        exact ⟨_, i, rfl, hi1, hi2, Fr.used_part h4 hi1 hi2 h1⟩
theorem Inv.store_old {f : Fr} {A B : List (List Int)} {pg : List Int} (h : Inv f (A ++ pg :: B)) {a : Nat} (ha : a < 256) (x : Int) (h0 : 0 ≤ pg.getD (a / 16) 0) (h1 : f.refs.getD (pg.getD (a / 16) 0).toNat 0 = 1) :
    ∃ f', f.store pg a x = some (f', pg) ∧ f'.used = f.used := by
  have hm : pg ∈ A ++ pg :: B := by simp
  have hpl := h.len pg hm
  have e : pg.set (a / 16) (((pg.getD (a / 16) 0).toNat : Nat) : Int) = pg := set_same pg _ (by omega) _ (by omega)
  unfold Fr.store Fr.grab
  rw [if_neg (by omega)]
  simp only [Fr.write]
  rw [if_pos h1]
  exact ⟨f.setRow (pg.getD (a / 16) 0).toNat ((f.data.getD (pg.getD (a / 16) 0).toNat []).set (a % 16) x), by simp only [e], rfl⟩
/-- How often a page's frame is among the pages of a space in which other pages are elsewhere. -/
theorem count_one (pg : List Int) (hl : pg.length = 16) (p n : Nat) (hp : p < 16) (h : ∀ q, q < 16 → p ≠ q → pg.getD q 0 ≠ n) : pg.count (n : Int) = if pg.getD p 0 = n then 1 else 0 := by
  have hs := count_set pg p (by omega) (-1) n
  have hz : (pg.set p (-1)).count (n : Int) = 0 := by
    rw [List.count_eq_zero]
    intro hm
    obtain ⟨q, hq, he⟩ := List.mem_iff_getElem.1 hm
    rw [List.length_set] at hq
    have e : (pg.set p (-1)).getD q 0 = n := by rw [List.getD_eq_getElem?_getD, List.getElem?_eq_getElem (by rw [List.length_set]; exact hq)]; exact he
    rw [getD_set' _ _ _ _ _ hq] at e
    split at e
    · omega
    · exact h q (by omega) (by assumption) e
  rw [if_neg (by omega : ¬ ((-1 : Int) = n))] at hs
  rw [hz] at hs
  by_cases hh : pg.getD p 0 = n
  · rw [if_pos hh] at hs ⊢; omega
  · rw [if_neg hh] at hs ⊢; omega
/-- Two spaces in frames: other pages are in other frames. -/
structure Two (f : Fr) (x y : List Int) : Prop where
  inv : Inv f [x, y]
  xx : ∀ p q, p < 16 → q < 16 → p ≠ q → 0 ≤ x.getD p 0 → x.getD p 0 ≠ x.getD q 0
  xy : ∀ p q, p < 16 → q < 16 → p ≠ q → 0 ≤ x.getD p 0 → x.getD p 0 ≠ y.getD q 0
  yy : ∀ p q, p < 16 → q < 16 → p ≠ q → 0 ≤ y.getD p 0 → y.getD p 0 ≠ y.getD q 0
theorem Inv.swap {f : Fr} {x y : List Int} (h : Inv f [x, y]) : Inv f [y, x] :=
  ⟨h.ok, fun q hq => h.len q (by simp at *; exact hq.symm), fun q hq => h.page q (by simp at *; exact hq.symm), fun n hn => by rw [h.refs n hn]; simp [cnt]; omega⟩
theorem Two.swap {f : Fr} {x y : List Int} (h : Two f x y) : Two f y x :=
  ⟨h.inv.swap, h.yy, fun p q hp hq hne h0 e => h.xy q p hq hp (Ne.symm hne) (by omega) e.symm, h.xx⟩
theorem Two.refs {f : Fr} {x y : List Int} (h : Two f x y) {p : Nat} (hp : p < 16) (h0 : 0 ≤ x.getD p 0) : f.refs.getD (x.getD p 0).toNat 0 = if x.getD p 0 = y.getD p 0 then 2 else 1 := by
  obtain ⟨n, hn⟩ : ∃ n : Nat, x.getD p 0 = n := ⟨(x.getD p 0).toNat, by omega⟩
  have e : (x.getD p 0).toNat = n := by omega
  rcases h.inv.pgOk (pg := x) (by simp) p hp with h1 | ⟨_, h2, _⟩
  · omega
  rw [h.inv.refs _ h2, e]
  have c1 := count_one x (h.inv.len x (by simp)) p n hp (fun q hq hne e2 => h.xx p q hp hq hne h0 (by rw [hn, e2]))
  have c2 := count_one y (h.inv.len y (by simp)) p n hp (fun q hq hne e2 => h.xy p q hp hq hne h0 (by rw [hn, e2]))
  rw [if_pos hn] at c1
  rw [hn]
  simp only [cnt, List.map_cons, List.map_nil, List.sum_cons, List.sum_nil, c1, c2]
  by_cases h3 : y.getD p 0 = n
  · rw [if_pos h3, if_pos h3.symm]; rfl
  · rw [if_neg h3, if_neg (fun e => h3 e.symm)]; rfl
/-- A frame that is free is nobody's. -/
theorem Inv.free_apart {f : Fr} {pgs : List (List Int)} (h : Inv f pgs) {q : List Int} (hq : q ∈ pgs) {j i : Nat} (hj : j < 16) (hi : f.refs.getD i 0 = 0) : q.getD j 0 ≠ (i : Int) := by
  intro e
  have := (h.not_free hq hj (by omega) hi).1
  omega
theorem Two.put {f f' : Fr} {x y : List Int} (h : Two f x y) {p i : Nat} (hi : f.refs.getD i 0 = 0) (hinv : Inv f' [x.set p (i : Int), y]) : Two f' (x.set p (i : Int)) y := by
  have hl := h.inv.len x (by simp)
  have hx : ∀ j, j < 16 → x.getD j 0 ≠ (i : Int) := fun j hj => h.inv.free_apart (by simp) hj hi
  have hy : ∀ j, j < 16 → y.getD j 0 ≠ (i : Int) := fun j hj => h.inv.free_apart (by simp) hj hi
  refine ⟨hinv, fun a b ha hb hne h0 => ?_, fun a b ha hb hne h0 => ?_, h.yy⟩
  · rw [getD_set' _ _ _ _ _ (by omega)] at h0 ⊢
    rw [getD_set' _ _ _ _ _ (by omega)]
    by_cases e1 : p = a
    · rw [if_pos e1, if_neg (by omega)]; exact fun e => hx b hb e.symm
    · rw [if_neg e1] at h0 ⊢
      by_cases e2 : p = b
      · rw [if_pos e2]; exact hx a ha
      · rw [if_neg e2]; exact h.xx a b ha hb hne h0
  · rw [getD_set' _ _ _ _ _ (by omega)] at h0 ⊢
    by_cases e1 : p = a
    · rw [if_pos e1]; exact fun e => hy b hb e.symm
    · rw [if_neg e1] at h0 ⊢
      exact h.xy a b ha hb hne h0
/-- One space in frames. -/
structure One (f : Fr) (x : List Int) : Prop where
  inv : Inv f [x]
  xx : ∀ p q, p < 16 → q < 16 → p ≠ q → 0 ≤ x.getD p 0 → x.getD p 0 ≠ x.getD q 0
theorem One.refs {f : Fr} {x : List Int} (h : One f x) {p : Nat} (hp : p < 16) (h0 : 0 ≤ x.getD p 0) : f.refs.getD (x.getD p 0).toNat 0 = 1 := by
  obtain ⟨n, hn⟩ : ∃ n : Nat, x.getD p 0 = n := ⟨(x.getD p 0).toNat, by omega⟩
  have e : (x.getD p 0).toNat = n := by omega
  rcases h.inv.pgOk (pg := x) (by simp) p hp with h1 | ⟨_, h2, _⟩
  · omega
  rw [h.inv.refs _ h2, e]
  have c1 := count_one x (h.inv.len x (by simp)) p n hp (fun q hq hne e2 => h.xx p q hp hq hne h0 (by rw [hn, e2]))
  rw [if_pos hn] at c1
  simp only [cnt, List.map_cons, List.map_nil, List.sum_cons, List.sum_nil, c1]
  rfl
theorem One.put {f f' : Fr} {x : List Int} (h : One f x) {p i : Nat} (hi : f.refs.getD i 0 = 0) (hinv : Inv f' [x.set p (i : Int)]) : One f' (x.set p (i : Int)) := by
  have hl := h.inv.len x (by simp)
  have hx : ∀ j, j < 16 → x.getD j 0 ≠ (i : Int) := fun j hj => h.inv.free_apart (by simp) hj hi
  refine ⟨hinv, fun a b ha hb hne h0 => ?_⟩
  rw [getD_set' _ _ _ _ _ (by omega)] at h0 ⊢
  rw [getD_set' _ _ _ _ _ (by omega)]
  by_cases e1 : p = a
  · rw [if_pos e1, if_neg (by omega)]; exact fun e => hx b hb e.symm
  · rw [if_neg e1] at h0 ⊢
    by_cases e2 : p = b
    · rw [if_pos e2]; exact hx a ha
    · rw [if_neg e2]; exact h.xx a b ha hb hne h0
/-- One write of PlayedOf's first list. -/
def refStepA (n : Nat) (a : List Int) (has : List Bool) (known : Nat) (at_ v : Int) : Except Int (List Int × List Bool × Nat) :=
  if 0 ≤ at_ ∧ at_ < 256 then
    if has.getD (at_.toNat / 16) false = true then .ok (a.set at_.toNat v, has, known)
    else if known = n then .error 7
    else .ok (a.set at_.toNat v, has.set (at_.toNat / 16) true, known + 1)
  else .error 2
def refA (n : Nat) (l : List Int) : Nat → Except Int (List Int × List Bool × Nat)
  | 0 => .ok (List.replicate 256 0, List.replicate 16 false, 0)
  | k + 1 => match refA n l k with
    | .error e => .error e
    | .ok (a, has, known) => refStepA n a has known (l.getD (k * 2) 0) (l.getD (k * 2 + 1) 0)
/-- What the first k writes came to, in frames and in the reference. -/
structure RelA (n : Nat) (f : Fr) (pg : List Int) (a : List Int) (has : List Bool) (known : Nat) : Prop where
  one : One f pg
  len : f.refs.length = n
  alen : a.length = 256
  hlen : has.length = 16
  word : ∀ c, c < 256 → f.word pg c = a.getD c 0
  has : ∀ p, p < 16 → has.getD p false = decide (0 ≤ pg.getD p 0)
  known : f.used = known
theorem getD_set_word (a : List Int) (k : Nat) (x : Int) (c : Nat) (hk : a.length = 256) (hc : c < 256) : (a.set k x).getD c 0 = if c = k then x else a.getD c 0 := by
  rw [getD_set' _ _ _ _ _ (by omega)]
  by_cases h : k = c
  · rw [if_pos h, if_pos h.symm]
  · rw [if_neg h, if_neg (fun e => h e.symm)]
/-- The two ways of a first write: both are refused alike, or both go on alike. -/
def SameA (n : Nat) (r : Except Int (Fr × List Int)) (s : Except Int (List Int × List Bool × Nat)) : Prop :=
  match r, s with
  | .error x, .error y => x = y
  | .ok (f, pg), .ok (a, has, known) => RelA n f pg a has known
  | _, _ => False
theorem RelA.step {n : Nat} {f : Fr} {pg a : List Int} {has : List Bool} {known : Nat} (h : RelA n f pg a has known) (at_ v : Int) : SameA n (stepStore f pg at_ v) (refStepA n a has known at_ v) := by
  unfold stepStore refStepA
  by_cases ha : 0 ≤ at_ ∧ at_ < 256
  · rw [if_pos ha, if_pos ha]
    obtain ⟨k, rfl⟩ : ∃ k : Nat, at_ = k := ⟨at_.toNat, by omega⟩
    have e3 : ((k : Int)).toNat = k := by omega
    rw [e3]
    have hk : k < 256 := by omega
    have hp : k / 16 < 16 := by omega
    have hpl := h.one.inv.len pg (by simp)
    rw [h.has _ hp]
    by_cases h0 : 0 ≤ pg.getD (k / 16) 0
    · rw [if_pos (decide_eq_true h0)]
      obtain ⟨f', hs, hu⟩ := Inv.store_old (A := []) (B := []) h.one.inv hk v h0 (h.one.refs hp h0)
      rw [hs]
      have hw := Inv.store_words (a := []) (b := []) h.one.inv hk hs
      have hi := Inv.store (a := []) (b := []) h.one.inv hk hs
      exact ⟨⟨hi, h.one.xx⟩, (Fr.store_len hs).trans h.len, by rw [List.length_set]; exact h.alen, h.hlen, fun c hc => by rw [hw.1 c hc, getD_set_word _ _ _ _ h.alen hc, h.word c hc], h.has, hu.trans h.known⟩
    · rw [if_neg (by simpa using h0)]
      obtain ⟨hn, hy⟩ := Inv.store_fresh (A := []) (B := []) h.one.inv hk v (.inl (by omega))
      by_cases hu : known = n
      · rw [if_pos hu, hn (by rw [h.known, h.len, hu])]
        exact rfl
      · rw [if_neg hu]
        obtain ⟨f', i, hs, hi1, hi2, hu2⟩ := hy (by rw [h.known, h.len]; exact hu)
        rw [hs]
        have hw := Inv.store_words (a := []) (b := []) h.one.inv hk hs
        have hi := Inv.store (a := []) (b := []) h.one.inv hk hs
        refine ⟨h.one.put hi2 hi, (Fr.store_len hs).trans h.len, by rw [List.length_set]; exact h.alen, by rw [List.length_set]; exact h.hlen, fun c hc => by rw [hw.1 c hc, getD_set_word _ _ _ _ h.alen hc, h.word c hc], fun q hq => ?_, by rw [hu2, h.known]⟩
        rw [getD_set' _ _ _ _ _ (by rw [h.hlen]; exact hq), getD_set' _ _ _ _ _ (by omega)]
        split
        · simp
        · exact h.has q hq
  · rw [if_neg ha, if_neg ha]
    exact rfl
theorem relA (n : Nat) (hn : n ≤ 200) (l : List Int) : ∀ k, SameA n (playA (Fr.fresh n) l k) (refA n l k)
  | 0 => by
    refine ⟨⟨Inv.fresh n hn, fun p q hp hq _ h0 => ?_⟩, List.length_replicate, List.length_replicate, List.length_replicate, fun c hc => ?_, fun p hp => ?_, ?_⟩
    · rw [getD_replicate 16 p _ _ hp] at h0; omega
    · rw [getD_replicate 256 c _ _ hc]
      unfold Fr.word
      rw [getD_replicate 16 (c / 16) _ _ (by omega), if_pos (by decide)]
    · rw [getD_replicate 16 p _ _ hp, getD_replicate 16 p _ _ hp]; rfl
    · simp [Fr.used, Fr.fresh]
  | k + 1 => by
    have ih := relA n hn l k
    simp only [playA, refA]
    revert ih
    generalize playA (Fr.fresh n) l k = r
    generalize refA n l k = s
    intro ih
    rcases r with x | ⟨f, pg⟩
    · rcases s with y | ⟨a, has, known⟩
      · exact ih
      · exact ih.elim
    · rcases s with y | ⟨a, has, known⟩
      · exact ih.elim
      · exact RelA.step ih _ _
end Go.Proofs.Ytipppemkcbgecaa
