/- One write of space.Play; what its lists of writes come to. -/
import Derived.Test.YtipppemkcbgecaaInvF
import Derived.Test.YtipppemkcbgecaaOpen
open Go Go.RowKit
namespace Go.Proofs.Ytipppemkcbgecaa
/-- One write: the frames and the pages behind it, or what is said. -/
def stepStore (f : Fr) (pg : List Int) (at_ v : Int) : Except Int (Fr × List Int) :=
  if 0 ≤ at_ ∧ at_ < 256 then (match f.store pg at_.toNat v with | none => .error 7 | some s => .ok s) else .error 2
theorem stepStore_ok {f : Fr} {pg : List Int} {at_ v : Int} {s : Fr × List Int} (h : stepStore f pg at_ v = .ok s) : ∃ a : Nat, at_ = a ∧ a < 256 ∧ f.store pg a v = some s := by
  unfold stepStore at h
  split at h
  · rename_i h0
    refine ⟨at_.toNat, by omega, by omega, ?_⟩
    split at h
    · cases h
    · rename_i s' hs
      cases h
      exact hs
  · cases h
theorem spStep (M : Nat → Prop) (w : World) (s h : Nat) (d r : Value) (f : Fr) (pg : List Int) (a x : Int) (HH : Ho M w h d r f) (HS : Sp w s h pg 0) (hp : PgOk f pg) (hM : ∀ b, M b → b < w.heap.size) (hs : M s) (hne : s ≠ h) :
    Calls Try.prog 13 #[.pointer (some ⟨s, 0, none⟩), .int .i64 a, .int .i64 x] w fun e w' => Upd (fun b => b = s ∨ b = h) w w' ∧
      ((∃ fl, stepStore f pg a x = .error fl ∧ (fl = 2 ∨ fl = 7) ∧ e = .returned (.bool false) ∧ ∃ pg', Sp w' s h pg' (if fl = 2 then 0 else 7)) ∨
       (∃ f' pg' d' r', stepStore f pg a x = .ok (f', pg') ∧ e = .returned (.bool true) ∧ Ho M w' h d' r' f' ∧ Sp w' s h pg' 0)) := by
  by_cases ha : 0 ≤ a ∧ a < 256
  · obtain ⟨k, rfl⟩ : ∃ k : Nat, a = k := ⟨a.toNat, by omega⟩
    have e3 : ((k : Int)).toNat = k := by omega
    refine (spStore M w s h d r f pg 0 k x HH HS hp hM hs hne (by omega)).mono ?_
    rintro e w' ⟨hu, ⟨h1, rfl, pg', h2⟩ | ⟨f', pg', d', r', h1, rfl, h2, h3⟩⟩
    · exact ⟨hu, .inl ⟨7, by unfold stepStore; rw [if_pos ha, e3, h1], .inr rfl, rfl, pg', h2⟩⟩
    · exact ⟨hu, .inr ⟨f', pg', d', r', by unfold stepStore; rw [if_pos ha, e3, h1], rfl, h2, h3⟩⟩
  · refine (spStore_bad w _ a x (by omega)).mono ?_
    rintro e w' ⟨rfl, rfl⟩
    exact ⟨Upd.refl _ _, .inl ⟨2, by unfold stepStore; rw [if_neg ha], .inl rfl, rfl, pg, HS⟩⟩
theorem spFault (w : World) (s h : Nat) (pg : List Int) (fl : Int) (hf : fl = 2 ∨ fl = 7) (HS : Sp w s h pg (if fl = 2 then 0 else 7)) :
    Calls Try.prog 14 #[.pointer (some ⟨s, 0, none⟩)] w fun e w' => e = .returned (.int .i64 fl) ∧ w' = w := by
  rcases hf with rfl | rfl
  · exact spFault0 w s h pg HS
  · exact spFault7 w s h pg HS
/-- The first k writes of the one space. -/
def playA (f : Fr) (l : List Int) : Nat → Except Int (Fr × List Int)
  | 0 => .ok (f, List.replicate 16 (-1))
  | k + 1 => match playA f l k with
    | .error e => .error e
    | .ok (g, pg) => stepStore g pg (l.getD (k * 2) 0) (l.getD (k * 2 + 1) 0)
/-- The first k writes of the two spaces. -/
def playB (f : Fr) (pa pb : List Int) (l : List Int) : Nat → Except Int (Fr × List Int × List Int)
  | 0 => .ok (f, pa, pb)
  | k + 1 => match playB f pa pb l k with
    | .error e => .error e
    | .ok (g, qa, qb) =>
      if l.getD (k * 3 + 2) 0 = 0 then (match stepStore g qa (l.getD (k * 3) 0) (l.getD (k * 3 + 1) 0) with | .error e => .error e | .ok (g', q) => .ok (g', q, qb))
      else (match stepStore g qb (l.getD (k * 3) 0) (l.getD (k * 3 + 1) 0) with | .error e => .error e | .ok (g', q) => .ok (g', qa, q))
theorem Fr.store_len {f f' : Fr} {pg pg' : List Int} {a : Nat} {x : Int} (he : f.store pg a x = some (f', pg')) : f'.refs.length = f.refs.length := by
  unfold Fr.store at he
  split at he
  · cases he
  · rename_i f1 pg1 h1
    have e1 : f1.refs.length = f.refs.length := by
      unfold Fr.grab at h1
      split at h1
      · split at h1
        · cases h1
        · cases h1; rw [Fr.refs_take, List.length_set]
      · cases h1; rfl
    split at he
    · cases he
    · rename_i f2 n h2
      cases he
      unfold Fr.write at h2
      split at h2
      · cases h2; exact e1
      · split at h2
        · cases h2
        · rename_i i hi
          cases h2
          show (f1.part _ _).refs.length = _
          rw [Fr.refs_part]
          simpa using e1
theorem playA_inv {f : Fr} {l : List Int} (h : Inv f [List.replicate 16 (-1)]) : ∀ k g pg, playA f l k = .ok (g, pg) → Inv g [pg] ∧ g.refs.length = f.refs.length
  | 0, g, pg, he => by
    simp only [playA, Except.ok.injEq, Prod.mk.injEq] at he
    obtain ⟨rfl, rfl⟩ := he
    exact ⟨h, rfl⟩
  | k + 1, g, pg, he => by
    simp only [playA] at he
    split at he
    · cases he
    · rename_i g0 pg0 h0
      obtain ⟨h1, h2⟩ := playA_inv h k g0 pg0 h0
      obtain ⟨a, _, ha, hs⟩ := stepStore_ok he
      exact ⟨Inv.store (a := []) (b := []) h1 ha hs, (Fr.store_len hs).trans h2⟩
theorem playB_inv {f : Fr} {pa pb l : List Int} (h : Inv f [pa, pb]) : ∀ k g qa qb, playB f pa pb l k = .ok (g, qa, qb) → Inv g [qa, qb] ∧ g.refs.length = f.refs.length
  | 0, g, qa, qb, he => by
    simp only [playB, Except.ok.injEq, Prod.mk.injEq] at he
    obtain ⟨rfl, rfl, rfl⟩ := he
    exact ⟨h, rfl⟩
  | k + 1, g, qa, qb, he => by
    simp only [playB] at he
    split at he
    · cases he
    · rename_i g0 qa0 qb0 h0
      obtain ⟨h1, h2⟩ := playB_inv h k g0 qa0 qb0 h0
      split at he
      · split at he
        · cases he
        · rename_i g' q hst
          cases he
          obtain ⟨a, _, ha, hs⟩ := stepStore_ok hst
          exact ⟨Inv.store (a := []) (b := [qb]) h1 ha hs, (Fr.store_len hs).trans h2⟩
      · split at he
        · cases he
        · rename_i g' q hst
          cases he
          obtain ⟨a, _, ha, hs⟩ := stepStore_ok hst
          exact ⟨Inv.store (a := [qa]) (b := []) h1 ha hs, (Fr.store_len hs).trans h2⟩
theorem Inv.low {f : Fr} {pg : List Int} (h : Inv f [pg]) : ∀ i, i < f.refs.length → f.refs.getD i 0 + 16 ≤ 200 := fun i hi => by
  rw [h.refs i hi]
  have h1 : pg.count (i : Int) ≤ pg.length := List.count_le_length
  have h2 := h.len pg (by simp)
  simp [cnt]
  omega
/-- What Play answers. -/
def playOf (n : Int) (n1 : Nat) (l1 : List Int) (n2 : Nat) (l2 : List Int) : Except Int (List Int × List Int × Nat) :=
  if 0 ≤ n ∧ n ≤ 200 then
    match playA (Fr.fresh n.toNat) l1 n1 with
    | .error e => .error e
    | .ok (f, pg) => match playB (f.shareN pg 16) pg pg l2 n2 with
      | .error e => .error e
      | .ok (g, qa, qb) => .ok (g.words qa, g.words qb, g.used)
  else .error 2
end Go.Proofs.Ytipppemkcbgecaa
