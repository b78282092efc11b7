/- What the spaces hold behind a store. -/
import Derived.Test.YtipppemkcbgecaaInv
open Go Go.RowKit
namespace Go.Proofs.Ytipppemkcbgecaa
theorem word_same {f f' : Fr} {pg : List Int} {c : Nat} (h : 0 ≤ pg.getD (c / 16) 0 → f'.data.getD (pg.getD (c / 16) 0).toNat [] = f.data.getD (pg.getD (c / 16) 0).toNat []) : f'.word pg c = f.word pg c := by
  unfold Fr.word
  split
  · rfl
  · rw [h (by omega)]
theorem data_take (f : Fr) (i j : Nat) (hj : j < f.data.length) : (f.take i).data.getD j [] = if i = j then zeros16 else f.data.getD j [] := getD_set' f.data i j zeros16 [] hj
theorem data_part (f : Fr) (n i j : Nat) (hj : j < f.data.length) : (f.part n i).data.getD j [] = if i = j then f.data.getD n [] else f.data.getD j [] := getD_set' f.data i j _ [] hj
theorem data_setRow (f : Fr) (i j : Nat) (d : List Int) (hj : j < f.data.length) : (f.setRow i d).data.getD j [] = if i = j then d else f.data.getD j [] := getD_set' f.data i j d [] hj
/-- Who has a page in a frame, does not have it in a free one. -/
theorem Inv.not_free {f : Fr} {pgs : List (List Int)} (h : Inv f pgs) {q : List Int} (hq : q ∈ pgs) {j : Nat} (hj : j < 16) (h0 : 0 ≤ q.getD j 0) {i : Nat} (hi : f.refs.getD i 0 = 0) : i ≠ (q.getD j 0).toNat ∧ (q.getD j 0).toNat < f.data.length := by
  rcases h.pgOk hq j hj with h1 | ⟨_, h2, h3⟩
  · omega
  · exact ⟨fun e => h3 (e ▸ hi), by rw [h.ok.len]; exact h2⟩
theorem Inv.grab_words {f f1 : Fr} {a b : List (List Int)} {pg pg1 : List Int} (h : Inv f (a ++ pg :: b)) {p : Nat} (hp : p < 16) (he : f.grab pg p = some (f1, pg1)) :
    (∀ c, c < 256 → f1.word pg1 c = f.word pg c) ∧ (∀ q, q ∈ a ++ b → ∀ c, c < 256 → f1.word q c = f.word q c) := by
  have hm : pg ∈ a ++ pg :: b := by simp
  have hpl := h.len pg hm
  unfold Fr.grab at he
  split at he
  · rename_i h0
    split at he
    · cases he
    · rename_i i hi
      cases he
      obtain ⟨_, hi1, hi2⟩ := Fr.free_some hi
      refine ⟨fun c hc => ?_, fun q hq c hc => ?_⟩
      · by_cases e : p = c / 16
        · have e1 : (pg.set p (i : Int)).getD (c / 16) 0 = i := by rw [getD_set' _ _ _ _ _ (by omega), if_pos e]
          have e2 : f.word pg c = 0 := by unfold Fr.word; rw [← e, if_pos h0]
          have e3 : ((i : Int)).toNat = i := by omega
          rw [e2]
          unfold Fr.word
          rw [e1, if_neg (by omega), e3, data_take _ _ _ (by rw [h.ok.len]; exact hi1), if_pos rfl]
          exact getD_replicate 16 _ _ _ (Nat.mod_lt _ (by decide))
        · have e1 : (pg.set p (i : Int)).getD (c / 16) 0 = pg.getD (c / 16) 0 := by rw [getD_set' _ _ _ _ _ (by omega), if_neg e]
          have : (f.take i).word (pg.set p (i : Int)) c = (f.take i).word pg c := by unfold Fr.word; rw [e1]
          rw [this]
          refine word_same fun h1 => ?_
          obtain ⟨h2, h3⟩ := h.not_free hm (by omega) h1 hi2
          rw [data_take _ _ _ h3, if_neg h2]
      · refine word_same fun h1 => ?_
        have hq' : q ∈ a ++ pg :: b := by
          rcases List.mem_append.1 hq with h | h
          · exact List.mem_append.2 (.inl h)
          · exact List.mem_append.2 (.inr (List.mem_cons.2 (.inr h)))
        obtain ⟨h2, h3⟩ := h.not_free hq' (by omega) h1 hi2
        rw [data_take _ _ _ h3, if_neg h2]
  · cases he
    exact ⟨fun _ _ => rfl, fun _ _ _ _ => rfl⟩
/-- A frame that one page alone is in. -/
theorem Inv.alone {f : Fr} {a b : List (List Int)} {pg : List Int} (h : Inv f (a ++ pg :: b)) {p n : Nat} (hp : p < 16) (hn : pg.getD p 0 = n) (h1 : f.refs.getD n 0 = 1) (hl : n < f.refs.length) :
    (∀ j, j < 16 → p ≠ j → pg.getD j 0 ≠ n) ∧ (∀ q, q ∈ a ++ b → ∀ j, j < 16 → q.getD j 0 ≠ n) := by
  have hm : pg ∈ a ++ pg :: b := by simp
  have hpl := h.len pg hm
  have hc := h.refs n hl
  rw [h1, cnt_mid] at hc
  have hs := count_set pg p (by omega) (-1) n
  rw [if_pos hn, if_neg (by omega)] at hs
  have hpos : 0 < pg.count (n : Int) := by
    rw [List.count_pos_iff, ← hn, List.getD_eq_getElem?_getD, List.getElem?_eq_getElem (by omega)]
    simp
  refine ⟨fun j hj hne he => ?_, fun q hq j hj he => ?_⟩
  · have e : (pg.set p (-1)).getD j 0 = n := by rw [getD_set' _ _ _ _ _ (by omega), if_neg hne]; exact he
    have : 0 < (pg.set p (-1)).count (n : Int) := by
      rw [List.count_pos_iff, ← e, List.getD_eq_getElem?_getD, List.getElem?_eq_getElem (by rw [List.length_set]; omega)]
      simp
    omega
  · have hql : q.length = 16 := by
      refine h.len q ?_
      rcases List.mem_append.1 hq with h | h
      · exact List.mem_append.2 (.inl h)
      · exact List.mem_append.2 (.inr (List.mem_cons.2 (.inr h)))
    have := cnt_pos hq (i := j) (n := n) (by omega) he
    rw [cnt_append] at this
    omega
theorem Inv.write_words {f f2 : Fr} {a b : List (List Int)} {pg : List Int} (h : Inv f (a ++ pg :: b)) {p : Nat} (hp : p < 16) (h0 : 0 ≤ pg.getD p 0) {k : Nat} (hk : k < 16) {x : Int} {n2 : Nat} (he : f.write (pg.getD p 0).toNat k x = some (f2, n2)) :
    (∀ c, c < 256 → f2.word (pg.set p (n2 : Int)) c = if c = 16 * p + k then x else f.word pg c) ∧ (∀ q, q ∈ a ++ b → ∀ c, c < 256 → f2.word q c = f.word q c) := by
  have hm : pg ∈ a ++ pg :: b := by simp
  have hpl := h.len pg hm
  have hmq : ∀ q, q ∈ a ++ b → q ∈ a ++ pg :: b := fun q hq => by
    rcases List.mem_append.1 hq with h | h
    · exact List.mem_append.2 (.inl h)
    · exact List.mem_append.2 (.inr (List.mem_cons.2 (.inr h)))
  rcases h.pgOk hm p hp with h1 | ⟨_, h2, h3⟩
  · omega
  obtain ⟨n, hn⟩ : ∃ n : Nat, pg.getD p 0 = n := ⟨(pg.getD p 0).toNat, by omega⟩
  have hn' : (pg.getD p 0).toNat = n := by omega
  rw [hn'] at he h2 h3
  have hrow := h.ok.known n h2 h3
  have hd : n < f.data.length := by rw [h.ok.len]; exact h2
  -- the words of the page, once its row is known
  have key : ∀ (F : Fr) (m : Nat), m < f.data.length → F.data.length = f.data.length → F.data.getD m [] = (f.data.getD n []).set k x →
      ∀ c, c < 256 → p = c / 16 → F.word (pg.set p (m : Int)) c = if c = 16 * p + k then x else f.word pg c := by
    intro F m hml hFl hF c hc e
    have e1 : (pg.set p (m : Int)).getD (c / 16) 0 = m := by rw [getD_set' _ _ _ _ _ (by omega), if_pos e]
    have e3 : ((m : Int)).toNat = m := by omega
    have e4 : f.word pg c = (f.data.getD n []).getD (c % 16) 0 := by unfold Fr.word; rw [← e, hn, if_neg (by omega)]; rw [show ((n : Int)).toNat = n by omega]
    have e5 : F.word (pg.set p (m : Int)) c = ((f.data.getD n []).set k x).getD (c % 16) 0 := by unfold Fr.word; rw [e1, if_neg (by omega), e3, hF]
    rw [e5, e4, getD_set' _ _ _ _ _ (by rw [hrow]; omega)]
    by_cases e6 : k = c % 16
    · rw [if_pos e6, if_pos (by omega)]
    · rw [if_neg e6, if_neg (by omega)]
  have other : ∀ (F : Fr) (m : Nat) c, c < 256 → p ≠ c / 16 → F.word (pg.set p (m : Int)) c = F.word pg c := by
    intro F m c hc e
    have e1 : (pg.set p (m : Int)).getD (c / 16) 0 = pg.getD (c / 16) 0 := by rw [getD_set' _ _ _ _ _ (by omega), if_neg e]
    unfold Fr.word
    rw [e1]
  unfold Fr.write at he
  split at he
  · rename_i hone
    cases he
    obtain ⟨al1, al2⟩ := h.alone hp hn hone h2
    refine ⟨fun c hc => ?_, fun q hq c hc => ?_⟩
    · by_cases e : p = c / 16
      · exact key _ _ hd (by simp [Fr.setRow]) (by rw [data_setRow _ _ _ _ hd, if_pos rfl]) c hc e
      · rw [other _ _ _ hc e, if_neg (by omega)]
        refine word_same fun h5 => ?_
        have := al1 (c / 16) (by omega) e
        obtain ⟨_, h6⟩ := h.pgOk hm (c / 16) (by omega) |>.elim (fun h => absurd h (by omega)) (fun h => h)
        rw [data_setRow _ _ _ _ (by rw [h.ok.len]; exact h6.1), if_neg (by omega)]
    · refine word_same fun h5 => ?_
      have := al2 q hq (c / 16) (by omega)
      obtain ⟨_, h6⟩ := h.pgOk (hmq q hq) (c / 16) (by omega) |>.elim (fun h => absurd h (by omega)) (fun h => h)
      rw [data_setRow _ _ _ _ (by rw [h.ok.len]; exact h6.1), if_neg (by omega)]
  · split at he
    · cases he
    · rename_i i hi
      cases he
      obtain ⟨_, hi1, hi2⟩ := Fr.free_some hi
      have hpl2 : (f.part n n2).data.length = f.data.length := by simp [Fr.part, Fr.setRow, Fr.setRef]
      have hid : n2 < f.data.length := by rw [h.ok.len]; exact hi1
      refine ⟨fun c hc => ?_, fun q hq c hc => ?_⟩
      · by_cases e : p = c / 16
        · exact key _ _ hid (by simp [Fr.setRow, hpl2]) (by rw [data_setRow _ _ _ _ (by rw [hpl2]; exact hid), if_pos rfl]) c hc e
        · rw [other _ _ _ hc e, if_neg (by omega)]
          refine word_same fun h5 => ?_
          obtain ⟨h6, h7⟩ := h.not_free hm (by omega) h5 hi2
          rw [data_setRow _ _ _ _ (by rw [hpl2]; exact h7), if_neg h6, data_part _ _ _ _ h7, if_neg h6]
      · refine word_same fun h5 => ?_
        obtain ⟨h6, h7⟩ := h.not_free (hmq q hq) (by omega) h5 hi2
        rw [data_setRow _ _ _ _ (by rw [hpl2]; exact h7), if_neg h6, data_part _ _ _ _ h7, if_neg h6]
/-- WHAT ONE SPACE WRITES THE OTHERS DO NOT SEE. -/
theorem Inv.store_words {f f' : Fr} {a b : List (List Int)} {pg pg' : List Int} (h : Inv f (a ++ pg :: b)) {at_ : Nat} (ha : at_ < 256) {x : Int} (he : f.store pg at_ x = some (f', pg')) :
    (∀ c, c < 256 → f'.word pg' c = if c = at_ then x else f.word pg c) ∧ (∀ q, q ∈ a ++ b → ∀ c, c < 256 → f'.word q c = f.word q c) := by
  have hp : at_ / 16 < 16 := by omega
  unfold Fr.store at he
  split at he
  · cases he
  · rename_i f1 pg1 h1
    split at he
    · cases he
    · rename_i f2 n h2
      cases he
      obtain ⟨h3, h4⟩ := h.grab hp h1
      obtain ⟨h5, h6⟩ := h.grab_words hp h1
      obtain ⟨h7, h8⟩ := h3.write_words hp h4 (Nat.mod_lt _ (by decide)) h2
      refine ⟨fun c hc => ?_, fun q hq c hc => by rw [h8 q hq c hc, h6 q hq c hc]⟩
      rw [h7 c hc, h5 c hc]
      have : 16 * (at_ / 16) + at_ % 16 = at_ := Nat.div_add_mod _ _
      rw [this]
end Go.Proofs.Ytipppemkcbgecaa
