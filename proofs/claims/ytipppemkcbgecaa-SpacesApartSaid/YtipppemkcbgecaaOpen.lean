/- A slice that came in whose elements are rows of int: opened at every cell. -/
import Derived.Test.YtipppemkcbgecaaMem
import Derived.ProofKit
import Derived.OpenShut
import Derived.ChangeOld
import Derived.Deep.Slices
open Go Go.RowKit Go.ChangeShapes Go.WideShapes Go.ChangeAt Go.Deep
namespace Go.Proofs.Ytipppemkcbgecaa
/-- A type whose values are k cells, each an int. -/
def Flat (P : Program) (e : TypeId) (k : Nat) : Prop := P.cellsOf e = k ∧ 0 < k ∧ ∀ (H : Type) (enc : TypeId × Value → H) (w : World) (base : Nat) (spare : Nat → Bool) (held : Bool) (fuel : Nat) (cs : List Value) (x : DataW H × List MemPlace),
  DataW.trod enc P w base spare held fuel e cs = some x → cs.length = k ∧ ∀ j, j < k → ∃ z : Int, cs[j]? = some (.int .i64 z) ∧ (Lit.int .i64 z).wf = true
theorem flat_array {P : Program} {t e : TypeId} {n : Nat} (ht : P.underlying t = some (.array n e)) (he : P.underlying e = some (.int .i64)) (hc : P.cellsOf e = 1) (hct : P.cellsOf t = n) (hn : 0 < n) : Flat P t n := by
  refine ⟨hct, hn, fun H enc w base spare held fuel cs x h => ?_⟩
  obtain ⟨xs, m, _, _, hl, hxl, hx⟩ := DataW.trod_array ht h
  refine ⟨by rw [hl, hct], fun j hj => ?_⟩
  have h1 := hx j hj
  rw [hc, List.getElem?_eq_getElem (by omega)] at h1
  obtain ⟨z, h2, _, h3⟩ := DataW.trod_int he h1
  refine ⟨z, ?_, h3⟩
  have h4 := congrArg (fun l => l[0]?) h2
  simpa [List.getElem?_take, List.getElem?_drop] using h4
theorem flat_struct {P : Program} {t : TypeId} {fs : Array Field} {n : Nat} (ht : P.underlying t = some (.struct fs)) (hs : fs.size = n) (hct : P.cellsOf t = n) (hn : 0 < n)
    (hf : ∀ j, j < n → ∃ f, fs[j]? = some f ∧ f.offset = j ∧ P.underlying f.type = some (.int .i64) ∧ P.cellsOf f.type = 1) : Flat P t n := by
  refine ⟨hct, hn, fun H enc w base spare held fuel cs x h => ?_⟩
  obtain ⟨xs, m, _, _, hl, hxl, hx⟩ := DataW.trod_struct ht h
  refine ⟨by rw [hl, hct], fun j hj => ?_⟩
  obtain ⟨f, h0, ho, hu, hc⟩ := hf j hj
  have h1 := hx j f h0
  rw [hc, ho, List.getElem?_eq_getElem (by omega)] at h1
  obtain ⟨z, h2, _, h3⟩ := DataW.trod_int hu h1
  refine ⟨z, ?_, h3⟩
  have h4 := congrArg (fun l => l[0]?) h2
  simpa [List.getElem?_take, List.getElem?_drop] using h4
/-- A slice of n elements of k ints. -/
def RdF (w : World) (k : Nat) (v : Value) (n : Nat) (l : List Int) : Prop :=
  ∃ A c, v = .slice A n c ∧ l.length = n * k ∧ n ≤ c ∧ c ≤ maxLen ∧ (0 < n → ∃ b o, A = some ⟨b, o, none⟩ ∧ b < w.heap.size ∧ ∀ j, j < n * k → w.cell? ⟨b, o + j, none⟩ = some (.int .i64 (l.getD j 0)))
theorem open_flat {P : Program} {H : Type} {enc : TypeId × Value → H} {w : World} {base : Nat} {sp : Nat → Bool} {held : Bool} {t e : TypeId} {k : Nat} {r : Reach} {b0 : Nat} {v : Value} {d : DataW H} {ps : List MemPlace}
    (ht : P.underlying t = some (.slice e)) (hF : Flat P e k) (hval : Value.okWide P w r b0 t v) (h : DataW.Trod enc P w base sp held t v d ps) : ∃ n l, RdF w k v n l ∧ ∀ z ∈ l, (Lit.int .i64 z).wf = true := by
  obtain ⟨hk, hk0, hF⟩ := hF
  obtain ⟨a0, len0, cap0, rfl⟩ := okWide_slice ht hval
  obtain ⟨fuel, hf⟩ := h
  rcases open_slice ht hf with ⟨hcs, _⟩ | ⟨a, len, cap, m, n, D, Pl, hcs, _, hl, hm, hmm, _, hx⟩
  · simp [Value.cells] at hcs
    obtain ⟨rfl, rfl, rfl⟩ := hcs
    exact ⟨0, [], ⟨none, 0, rfl, by simp, Nat.le_refl _, Nat.zero_le _, fun h => absurd h (Nat.lt_irrefl _)⟩, fun z hz => by cases hz⟩
  · simp [Value.cells] at hcs
    obtain ⟨rfl, rfl, rfl⟩ := hcs
    have hlm : len0 ≤ m := by rw [hmm]; split <;> omega
    have each : ∀ j, j < len0 * k → ∃ z : Int, w.cell? (a.add j) = some (.int .i64 z) ∧ (Lit.int .i64 z).wf = true := by
      intro j hj
      have hi : j / k < len0 := (Nat.div_lt_iff_lt_mul hk0).2 hj
      obtain ⟨cs', h1, h2⟩ := hx (j / k) (by omega)
      rw [hk] at h1
      obtain ⟨_, _, hcell⟩ := World.cells?_some h1
      obtain ⟨_, hz⟩ := hF _ _ _ _ _ _ _ _ _ h2
      obtain ⟨z, hz1, hz2⟩ := hz (j % k) (Nat.mod_lt _ hk0)
      have := hcell (j % k) (Nat.mod_lt _ hk0)
      rw [Go.Deep.add_add, hz1] at this
      have e : j / k * k + j % k = j := by rw [Nat.mul_comm]; exact Nat.div_add_mod j k
      rw [e] at this
      exact ⟨z, this, hz2⟩
    obtain ⟨g, hg⟩ : ∃ g : Nat → Int, ∀ j, j < len0 * k → w.cell? (a.add j) = some (.int .i64 (g j)) ∧ (Lit.int .i64 (g j)).wf = true :=
      ⟨fun j => if hj : j < len0 * k then Classical.choose (each j hj) else 0, fun j hj => by simp only [dif_pos hj]; exact Classical.choose_spec (each j hj)⟩
    refine ⟨len0, (List.range (len0 * k)).map g, ⟨some a, cap0, rfl, by simp, hl, hm, fun hn => ?_⟩, fun z hz => ?_⟩
    · have hp : 0 < len0 * k := Nat.mul_pos hn hk0
      have h0 := (hg 0 hp).1
      obtain ⟨b, off, spot⟩ := a
      have hspot : spot = none := by simpa [Addr.add] using World.cell?_spot h0
      subst hspot
      refine ⟨b, off, rfl, ?_, fun j hj => ?_⟩
      · rw [add_at] at h0
        exact World.block_lt_of_cell? w _ h0
      · have := (hg j hj).1
        rw [add_at] at this
        rw [this]
        simp [List.getD_eq_getElem?_getD, hj]
    · obtain ⟨j, hj, rfl⟩ := List.mem_map.1 hz
      exact (hg j (List.mem_range.1 hj)).2
theorem RdF.below {w w' : World} {k : Nat} {v : Value} {n : Nat} {l : List Int} (h : RdF w k v n l) (hb : Below w.heap.size w w') : RdF w' k v n l := by
  obtain ⟨A, c, h1, h2, h3, h4, h5⟩ := h
  refine ⟨A, c, h1, h2, h3, h4, fun hn => ?_⟩
  obtain ⟨b, o, e, hlt, hc⟩ := h5 hn
  exact ⟨b, o, e, Nat.lt_of_lt_of_le hlt hb.size, fun j hj => by rw [World.cell?_of_block (w := w) (hb.block b hlt)]; exact hc j hj⟩
end Go.Proofs.Ytipppemkcbgecaa
