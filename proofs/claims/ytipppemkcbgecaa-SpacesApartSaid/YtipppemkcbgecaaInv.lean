/- Frames that spaces share: the counts tell who knows a frame. -/
import Derived.Test.YtipppemkcbgecaaSpG
open Go Go.RowKit
namespace Go.Proofs.Ytipppemkcbgecaa
/-- How many pages of these spaces are in frame n. -/
def cnt (pgs : List (List Int)) (n : Nat) : Nat := (pgs.map (fun pg => pg.count (n : Int))).sum
theorem cnt_append (a b : List (List Int)) (n : Nat) : cnt (a ++ b) n = cnt a n + cnt b n := by simp [cnt]
theorem cnt_cons (a : List Int) (b : List (List Int)) (n : Nat) : cnt (a :: b) n = a.count (n : Int) + cnt b n := by simp [cnt]
theorem cnt_mid (a : List (List Int)) (pg : List Int) (b : List (List Int)) (n : Nat) : cnt (a ++ pg :: b) n = cnt a n + (pg.count (n : Int) + cnt b n) := by rw [cnt_append, cnt_cons]
structure Inv (f : Fr) (pgs : List (List Int)) : Prop where
  ok : f.Ok
  len : ∀ pg, pg ∈ pgs → pg.length = 16
  page : ∀ pg, pg ∈ pgs → ∀ i, i < 16 → pg.getD i 0 = -1 ∨ (0 ≤ pg.getD i 0 ∧ pg.getD i 0 < f.refs.length)
  refs : ∀ n, n < f.refs.length → f.refs.getD n 0 = cnt pgs n
theorem cnt_pos {pgs : List (List Int)} {pg : List Int} (h : pg ∈ pgs) {i n : Nat} (hi : i < pg.length) (he : pg.getD i 0 = n) : 0 < cnt pgs n := by
  obtain ⟨a, b, rfl⟩ := List.append_of_mem h
  rw [cnt_mid]
  have : 0 < pg.count (n : Int) := by
    rw [List.count_pos_iff]
    rw [← he, List.getD_eq_getElem?_getD, List.getElem?_eq_getElem hi]
    simp
  omega
theorem Inv.pgOk {f : Fr} {pgs : List (List Int)} (h : Inv f pgs) {pg : List Int} (hp : pg ∈ pgs) : PgOk f pg := by
  intro i hi
  rcases h.page pg hp i hi with h1 | ⟨h1, h2⟩
  · exact .inl h1
  · refine .inr ⟨h1, by omega, ?_⟩
    have := cnt_pos hp (i := i) (n := (pg.getD i 0).toNat) (by rw [h.len pg hp]; exact hi) (by omega)
    rw [h.refs _ (by omega)]
    omega
/-- A page is put into another frame: what the counts are then. -/
theorem count_set (pg : List Int) (p : Nat) (hp : p < pg.length) (x : Int) (n : Nat) : ((pg.set p x).count (n : Int) : Int) = pg.count (n : Int) - (if pg.getD p 0 = n then 1 else 0) + (if x = n then 1 else 0) := by
  have h := List.count_set (a := x) (b := (n : Int)) hp
  have e : pg.getD p 0 = pg[p] := by rw [List.getD_eq_getElem?_getD, List.getElem?_eq_getElem hp]; rfl
  have hpos : pg[p] = n → 0 < pg.count (n : Int) := fun he => by rw [List.count_pos_iff, ← he]; exact List.getElem_mem hp
  rw [h, e]
  by_cases h1 : pg[p] = n <;> by_cases h2 : x = n
  all_goals simp [h1, h2]
  all_goals (try have := hpos h1)
  all_goals omega
theorem Inv.frames {f f' : Fr} {a b : List (List Int)} {pg : List Int} (h : Inv f (a ++ pg :: b)) (hok : f'.Ok) (hl : f'.refs.length = f.refs.length) (p : Nat) (hp : p < 16) (i : Nat) (hi : i < f.refs.length)
    (hr : ∀ n, n < f.refs.length → f'.refs.getD n 0 = f.refs.getD n 0 - (if pg.getD p 0 = n then 1 else 0) + (if i = n then 1 else 0)) : Inv f' (a ++ pg.set p (i : Int) :: b) := by
  have hm : pg ∈ a ++ pg :: b := by simp
  have hpl := h.len pg hm
  refine ⟨hok, fun q hq => ?_, fun q hq j hj => ?_, fun n hn => ?_⟩
  · rcases List.mem_append.1 hq with h1 | h1
    · exact h.len q (List.mem_append.2 (.inl h1))
    · rcases List.mem_cons.1 h1 with rfl | h1
      · rw [List.length_set]; exact hpl
      · exact h.len q (List.mem_append.2 (.inr (List.mem_cons.2 (.inr h1))))
  · rw [hl]
    rcases List.mem_append.1 hq with h1 | h1
    · exact h.page q (List.mem_append.2 (.inl h1)) j hj
    · rcases List.mem_cons.1 h1 with rfl | h1
      · rw [getD_set' _ _ _ _ _ (by omega)]
        split
        · exact .inr ⟨by omega, by omega⟩
        · exact h.page pg hm j hj
      · exact h.page q (List.mem_append.2 (.inr (List.mem_cons.2 (.inr h1)))) j hj
  · rw [hl] at hn
    have h1 := h.refs n hn
    have h2 := hr n hn
    have h3 := count_set pg p (by omega) (i : Int) n
    rw [cnt_mid] at h1 ⊢
    rw [h2, h1]
    have e : ((i : Int) = n) ↔ i = n := by omega
    simp only [e] at h3
    omega
theorem Inv.grab {f f1 : Fr} {a b : List (List Int)} {pg pg1 : List Int} (h : Inv f (a ++ pg :: b)) {p : Nat} (hp : p < 16) (he : f.grab pg p = some (f1, pg1)) : Inv f1 (a ++ pg1 :: b) ∧ 0 ≤ pg1.getD p 0 := by
  have hm : pg ∈ a ++ pg :: b := by simp
  have hpl := h.len pg hm
  have hg := Fr.grab_ok h.ok (h.pgOk hm) hpl hp he
  refine ⟨?_, hg.2.2.1⟩
  unfold Fr.grab at he
  split at he
  · rename_i h0
    split at he
    · cases he
    · rename_i i hi
      cases he
      obtain ⟨_, hi1, hi2⟩ := Fr.free_some hi
      refine h.frames (h.ok.take i) (by rw [Fr.refs_take, List.length_set]) p hp i hi1 (fun n hn => ?_)
      have hz : ¬ (pg.getD p 0 = (n : Int)) := by omega
      rw [Fr.refs_take, getD_set' _ _ _ _ _ hn]
      simp only [hz, if_false]
      split
      · rename_i e; subst e; omega
      · omega
  · cases he
    exact h
theorem Fr.refs_part (f : Fr) (n i : Nat) : (f.part n i).refs = (f.refs.set n (f.refs.getD n 0 - 1)).set i 1 := rfl
theorem Inv.write {f f2 : Fr} {a b : List (List Int)} {pg : List Int} (h : Inv f (a ++ pg :: b)) {p : Nat} (hp : p < 16) (h0 : 0 ≤ pg.getD p 0) {k : Nat} {x : Int} {n2 : Nat} (he : f.write (pg.getD p 0).toNat k x = some (f2, n2)) : Inv f2 (a ++ pg.set p (n2 : Int) :: b) := by
  have hm : pg ∈ a ++ pg :: b := by simp
  have hpl := h.len pg hm
  rcases h.pgOk hm p hp with h1 | ⟨_, h2, h3⟩
  · omega
  obtain ⟨n, hn⟩ : ∃ n : Nat, pg.getD p 0 = n := ⟨(pg.getD p 0).toNat, by omega⟩
  have hn' : (pg.getD p 0).toNat = n := by omega
  rw [hn'] at he h2 h3
  have hok2 := h.ok.write n k x h2 h3 he
  unfold Fr.write at he
  split at he
  · cases he
    refine h.frames hok2 rfl p hp _ h2 (fun m hm' => ?_)
    show f.refs.getD m 0 = _
    rw [hn]
    have ec : ((n2 : Int) = (m : Nat)) ↔ n2 = m := by omega
    simp only [ec]
    split <;> omega
  · rename_i h4
    split at he
    · cases he
    · rename_i i hi
      cases he
      obtain ⟨_, hi1, hi2⟩ := Fr.free_some hi
      refine h.frames hok2 (by show (f.part n n2).refs.length = _; rw [Fr.refs_part]; simp) p hp n2 hi1 (fun m hm' => ?_)
      show (f.part n n2).refs.getD m 0 = _
      rw [Fr.refs_part, getD_set' _ _ _ _ _ (by simpa using hm'), getD_set' _ _ _ _ _ hm', hn]
      by_cases e : n2 = m
      · subst e
        have : ¬ ((n : Int) = (n2 : Nat)) := fun e => by
          have : n = n2 := by omega
          subst this
          omega
        rw [if_pos rfl, if_neg this, hi2]; simp
      · rw [if_neg e, if_neg e]
        by_cases e2 : n = m
        · subst e2; rw [if_pos rfl, if_pos rfl]; omega
        · rw [if_neg e2, if_neg (by omega)]; omega
/-- A store keeps the counts. -/
theorem Inv.store {f f' : Fr} {a b : List (List Int)} {pg pg' : List Int} (h : Inv f (a ++ pg :: b)) {at_ : Nat} (ha : at_ < 256) {x : Int} (he : f.store pg at_ x = some (f', pg')) : Inv f' (a ++ pg' :: b) := by
  have hp : at_ / 16 < 16 := by omega
  unfold Fr.store at he
  split at he
  · cases he
  · rename_i f1 pg1 h1
    split at he
    · cases he
    · rename_i f2 n h2
      cases he
      obtain ⟨h3, h4⟩ := h.grab hp h1
      exact h3.write hp h4 h2
/-- Nobody has a page in any frame. -/
theorem Inv.fresh (n : Nat) (h : n ≤ 200) : Inv (Fr.fresh n) [List.replicate 16 (-1)] := by
  refine ⟨Fr.fresh_ok n h, fun pg hp => by simp at hp; subst hp; rfl, fun pg hp i hi => ?_, fun m hm => ?_⟩
  · simp at hp; subst hp
    exact .inl (getD_replicate 16 i _ _ hi)
  · have hm' : m < n := by simpa [Fr.fresh] using hm
    rw [show (Fr.fresh n).refs.getD m 0 = 0 from getD_replicate n m _ _ hm']
    have : ¬ ((-1 : Int) = (m : Int)) := by omega
    simp [cnt, this]
end Go.Proofs.Ytipppemkcbgecaa
