/- What a store does to frames and pages, as a function. -/
import Derived.Test.YtipppemkcbgecaaSpC
open Go Go.RowKit
namespace Go.Proofs.Ytipppemkcbgecaa
def Fr.free (f : Fr) : Option Nat := if 0 ≤ idx f.refs 0 then some (idx f.refs 0).toNat else none
theorem Fr.free_some {f : Fr} {i : Nat} (h : f.free = some i) : idx f.refs 0 = i ∧ i < f.refs.length ∧ f.refs.getD i 0 = 0 := by
  unfold Fr.free at h
  split at h
  · rename_i h0
    obtain ⟨k, hk, hl, he, _⟩ := idx_at f.refs 0 h0
    cases h
    rw [hk]
    exact ⟨by omega, by simpa using hl, by simpa using he⟩
  · cases h
theorem Fr.free_none {f : Fr} (h : f.free = none) : idx f.refs 0 < 0 := by
  unfold Fr.free at h
  split at h
  · cases h
  · omega
def Fr.write (f : Fr) (n k : Nat) (x : Int) : Option (Fr × Nat) :=
  if f.refs.getD n 0 = 1 then some (f.setRow n ((f.data.getD n []).set k x), n)
  else match f.free with
    | none => none
    | some i => some ((f.part n i).setRow i ((f.data.getD n []).set k x), i)
def Fr.grab (f : Fr) (pg : List Int) (p : Nat) : Option (Fr × List Int) :=
  if pg.getD p 0 < 0 then match f.free with
    | none => none
    | some i => some (f.take i, pg.set p i)
  else some (f, pg)
def Fr.store (f : Fr) (pg : List Int) (a : Nat) (x : Int) : Option (Fr × List Int) :=
  match f.grab pg (a / 16) with
  | none => none
  | some (f1, pg1) => match f1.write (pg1.getD (a / 16) 0).toNat (a % 16) x with
    | none => none
    | some (f2, n) => some (f2, pg1.set (a / 16) n)
theorem getD_set' {α : Type} (l : List α) (i j : Nat) (x d : α) (hj : j < l.length) : (l.set i x).getD j d = if i = j then x else l.getD j d := by
  simp only [List.getD_eq_getElem?_getD, List.getElem?_set]
  split
  · simp_all
  · rfl
theorem Fr.Ok.setRow {f : Fr} (h : f.Ok) (n : Nat) (d : List Int) (hd : d.length = 16) (hn : f.refs.getD n 0 ≠ 0) : (f.setRow n d).Ok := by
  have hr : (f.setRow n d).refs = f.refs := rfl
  have hg : ∀ i, i < f.data.length → (f.setRow n d).data.getD i [] = if n = i then d else f.data.getD i [] := fun i hi => getD_set' f.data n i d [] hi
  refine ⟨by simp [Fr.setRow, h.len], h.most, h.refs, fun i hi h0 => ?_, fun i hi h0 => ?_⟩
  · rw [hg i (by rw [h.len]; exact hi)]
    split
    · rename_i e; subst e; exact absurd h0 hn
    · exact h.free i hi h0
  · rw [hg i (by rw [h.len]; exact hi)]
    split
    · exact hd
    · exact h.known i hi h0
/-- A reference count is set, and a row with it. -/
theorem Fr.Ok.setBoth {f : Fr} (h : f.Ok) (n : Nat) (y : Int) (d : List Int) (hd : d.length = 16) (h1 : 0 < y) (h2 : y ≤ 200) : ((f.setRef n y).setRow n d).Ok := by
  have hg : ∀ i, i < f.data.length → ((f.setRef n y).setRow n d).data.getD i [] = if n = i then d else f.data.getD i [] := fun i hi => getD_set' f.data n i d [] hi
  have hr : ∀ i, i < f.refs.length → ((f.setRef n y).setRow n d).refs.getD i 0 = if n = i then y else f.refs.getD i 0 := fun i hi => getD_set' f.refs n i y 0 hi
  have hl : ((f.setRef n y).setRow n d).refs.length = f.refs.length := by simp [Fr.setRow, Fr.setRef]
  refine ⟨by simp [Fr.setRow, Fr.setRef, h.len], by rw [hl]; exact h.most, fun i hi => ?_, fun i hi h0 => ?_, fun i hi h0 => ?_⟩
  all_goals rw [hl] at hi
  · rw [hr i hi]
    split
    · omega
    · exact h.refs i hi
  · rw [hr i hi] at h0
    rw [hg i (by rw [h.len]; exact hi)]
    split at h0
    · omega
    · rename_i e; rw [if_neg e]; exact h.free i hi h0
  · rw [hr i hi] at h0
    rw [hg i (by rw [h.len]; exact hi)]
    split
    · exact hd
    · rename_i e; rw [if_neg e] at h0; exact h.known i hi h0
theorem Fr.Ok.setRef {f : Fr} (h : f.Ok) (n : Nat) (y : Int) (hn : f.refs.getD n 0 ≠ 0) (h1 : 0 < y) (h2 : y ≤ 200) : (f.setRef n y).Ok := by
  have hr : ∀ i, i < f.refs.length → (f.setRef n y).refs.getD i 0 = if n = i then y else f.refs.getD i 0 := fun i hi => getD_set' f.refs n i y 0 hi
  have hl : (f.setRef n y).refs.length = f.refs.length := by simp [Fr.setRef]
  refine ⟨by rw [hl]; exact h.len, by rw [hl]; exact h.most, fun i hi => ?_, fun i hi h0 => ?_, fun i hi h0 => ?_⟩
  all_goals rw [hl] at hi
  · rw [hr i hi]
    split
    · omega
    · exact h.refs i hi
  · rw [hr i hi] at h0
    split at h0
    · omega
    · exact h.free i hi h0
  · rw [hr i hi] at h0
    split at h0
    · rename_i e; subst e; exact h.known n hi hn
    · exact h.known i hi h0
theorem Fr.Ok.take {f : Fr} (h : f.Ok) (i : Nat) : (f.take i).Ok := h.setBoth i 1 zeros16 rfl (by decide) (by decide)
theorem Fr.Ok.part {f : Fr} (h : f.Ok) (n i : Nat) (hn : n < f.refs.length) (hy : 1 < f.refs.getD n 0) : (f.part n i).Ok := by
  have hy2 := (h.refs n hn).2
  exact (h.setRef n (f.refs.getD n 0 - 1) (by omega) (by omega) (by omega)).setBoth i 1 (f.data.getD n []) (h.known n hn (by omega)) (by decide) (by decide)
theorem Fr.Ok.write {f : Fr} (h : f.Ok) (n k : Nat) (x : Int) (hn : n < f.refs.length) (hy : f.refs.getD n 0 ≠ 0) {f' : Fr} {n' : Nat} (he : f.write n k x = some (f', n')) : f'.Ok := by
  have h16 : ((f.data.getD n []).set k x).length = 16 := by rw [List.length_set]; exact h.known n hn hy
  have hp := (h.refs n hn).1
  unfold Fr.write at he
  split at he
  · cases he
    exact h.setRow n _ h16 hy
  · split at he
    · cases he
    · rename_i i hi
      cases he
      have hi2 := (Fr.free_some hi).2.1
      refine (h.part n n' hn (by omega)).setRow n' _ h16 ?_
      have : (f.part n n').refs = (f.refs.set n (f.refs.getD n 0 - 1)).set n' 1 := rfl
      rw [this, getD_set _ _ _ _ _ (by simpa using hi2), if_pos rfl]
      decide
theorem Fr.refs_take (f : Fr) (i : Nat) : (f.take i).refs = f.refs.set i 1 := rfl
theorem Fr.grab_ok {f : Fr} (h : f.Ok) {pg : List Int} {p : Nat} (hp : PgOk f pg) (hl : pg.length = 16) (hpp : p < 16) {f1 : Fr} {pg1 : List Int} (he : f.grab pg p = some (f1, pg1)) :
    f1.Ok ∧ pg1.length = 16 ∧ 0 ≤ pg1.getD p 0 ∧ (pg1.getD p 0).toNat < f1.refs.length ∧ f1.refs.getD (pg1.getD p 0).toNat 0 ≠ 0 := by
  unfold Fr.grab at he
  split at he
  · split at he
    · cases he
    · rename_i i hi
      cases he
      have := Fr.free_some hi
      have e : (pg.set p (i : Int)).getD p 0 = i := by rw [getD_set _ _ _ _ _ (by omega), if_pos rfl]
      refine ⟨h.take i, by rw [List.length_set]; exact hl, by rw [e]; omega, ?_, ?_⟩
      · rw [e, Fr.refs_take, List.length_set]; simpa using this.2.1
      · rw [e, Fr.refs_take]
        have e2 : ((i : Int)).toNat = i := by omega
        rw [e2, getD_set _ _ _ _ _ this.2.1, if_pos rfl]
        decide
  · cases he
    rcases hp p hpp with h1 | h1
    · omega
    · exact ⟨h, hl, h1.1, h1.2.1, h1.2.2⟩
set_option maxRecDepth 100000
/-- frames.Write. -/
theorem frWrite (p : Nat → Prop) (v : Value) (f : Fr) (w : World) (n k : Nat) (x : Int) (h : RdFr p w v f) (hok : f.Ok) (hn : n < f.refs.length) (hne : f.refs.getD n 0 ≠ 0) (hk : k < 16) :
    Calls Try.prog 20 #[v, .int .i64 n, .int .i64 k, .int .i64 x] w fun e w' =>
      (f.write n k x = none ∧ e = .returned (.tuple #[.agg #[.slice none 0 0, .slice none 0 0], .int .i64 0, .int .i64 7]) ∧ Below w.heap.size w w') ∨
      (∃ d r f' n', f.write n k x = some (f', n') ∧ e = .returned (.tuple #[.agg #[d, r], .int .i64 (n' : Nat), .int .i64 0]) ∧ RdFr (fun b => w.heap.size ≤ b) w' (.agg #[d, r]) f' ∧ Below w.heap.size w w') := by
  by_cases h1 : f.refs.getD n 0 = 1
  · refine (frWrite_one p v f w n k x h hok hn h1 hk).mono ?_
    rintro e w' ⟨v', rfl, hr, hb⟩
    obtain ⟨bd, od, cd, br, or_, cr, rows, rfl, _⟩ := id hr
    exact .inr ⟨_, _, _, n, by simp only [Fr.write]; rw [if_pos h1], rfl, hr, hb⟩
  · have hp := (hok.refs n hn).1
    refine (frWrite_many p v f w n k x h hok hn (by omega) hk).mono ?_
    rintro e w' (⟨hi, rfl, hb⟩ | ⟨v', i, hi, rfl, hr, hb⟩)
    · have hf : f.free = none := by unfold Fr.free; rw [if_neg (by omega)]
      exact .inl ⟨by simp only [Fr.write]; rw [if_neg h1, hf], rfl, hb⟩
    · have hf : f.free = some i := by unfold Fr.free; rw [hi]; exact if_pos (Int.natCast_nonneg i)
      obtain ⟨bd, od, cd, br, or_, cr, rows, rfl, _⟩ := id hr
      exact .inr ⟨_, _, _, i, by simp only [Fr.write]; rw [if_neg h1, hf], rfl, hr, hb⟩
end Go.Proofs.Ytipppemkcbgecaa
