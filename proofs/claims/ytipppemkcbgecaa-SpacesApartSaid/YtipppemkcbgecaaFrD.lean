/- What may be done to frames that the call owns; frames.Take. -/
import Derived.Test.YtipppemkcbgecaaFrC
open Go Go.RowKit
namespace Go.Proofs.Ytipppemkcbgecaa
theorem OwnFr.reads {w : World} {lo : Nat} {f : Fr} {bd cd br cr : Nat} {rows : List Value} (h : OwnFr w lo f bd cd br cr rows) :
    RdFr (fun b => lo ≤ b) w (.agg #[.slice (some ⟨bd, 0, none⟩) f.data.length cd, .slice (some ⟨br, 0, none⟩) f.refs.length cr]) f := by
  have hl : rows.length = f.data.length := by have := h.data.1; simpa using this
  exact ⟨bd, 0, cd, br, 0, cr, rows, rfl, rd_of_own h.data, rd_of_own h.refs, hl, fun i hi => rd_of_own (h.row i hi)⟩
theorem OwnFr.alloc {w : World} {lo : Nat} {f : Fr} {bd cd br cr : Nat} {rows : List Value} (h : OwnFr w lo f bd cd br cr rows) (o : Obj) : OwnFr (w.alloc o) lo f bd cd br cr rows :=
  ⟨h.ne, h.data.alloc _, h.refs.alloc _, fun i hi => (h.row i hi).alloc _, h.apart, h.each⟩
theorem OwnFr.below {w w' : World} {lo : Nat} {f : Fr} {bd cd br cr : Nat} {rows : List Value} (h : OwnFr w lo f bd cd br cr rows) (hb : Below w.heap.size w w') : OwnFr w' lo f bd cd br cr rows :=
  ⟨h.ne, own_below h.data hb, own_below h.refs hb, fun i hi => own_below (h.row i hi) hb, h.apart, h.each⟩
def Fr.setRef (f : Fr) (i : Nat) (x : Int) : Fr := { f with refs := f.refs.set i x }
def Fr.setRow (f : Fr) (i : Nat) (d : List Int) : Fr := { f with data := f.data.set i d }
theorem ints_set (l : List Int) (i : Nat) (x : Int) : (ints l).set i (.int .i64 x) = ints (l.set i x) := by simp [ints, List.map_set]
theorem getD_set {α : Type} (l : List α) (i j : Nat) (x d : α) (hi : i < l.length) : (l.set i x).getD j d = if i = j then x else l.getD j d := by
  simp only [List.getD_eq_getElem?_getD, List.getElem?_set]
  split <;> simp_all
theorem OwnFr.setRef {w : World} {lo : Nat} {f : Fr} {bd cd br cr : Nat} {rows : List Value} (h : OwnFr w lo f bd cd br cr rows) (i : Nat) (x : Int) :
    OwnFr (w.setCell ⟨br, i, none⟩ (.int .i64 x)) lo (f.setRef i x) bd cd br cr rows := by
  refine ⟨h.ne, ownsRow_setCell_other h.data (by simp [Value.ownBlock]; exact h.ne) _, ?_, fun j hj => ownsRow_setCell_other (h.row j hj) (fun e => (h.apart j hj _ e).2 rfl) _, h.apart, h.each⟩
  have := (h.refs.stored i (.int .i64 x)).1
  rw [ints_set] at this
  show World.ownsRow _ lo _ 1 (.slice _ (f.refs.set i x).length cr) (f.refs.set i x).length (ints (f.refs.set i x))
  rwa [List.length_set]
theorem OwnFr.setRow {w : World} {lo : Nat} {f : Fr} {bd cd br cr : Nat} {rows : List Value} (h : OwnFr w lo f bd cd br cr rows) (i : Nat) (hi : i < f.data.length) (v : Value) (d : List Int)
    (hv : w.ownsRow lo 3 1 v d.length (ints d)) (h1 : ∀ b, v.ownBlock = some b → b ≠ bd ∧ b ≠ br ∧ ∀ j, j < f.data.length → j ≠ i → (rows.getD j undef).ownBlock ≠ some b) :
    OwnFr (w.setCell ⟨bd, i, none⟩ v) lo (f.setRow i d) bd cd br cr (rows.set i v) := by
  have hl : rows.length = f.data.length := by have := h.data.1; simpa using this
  have hs : (f.setRow i d).data.length = f.data.length := by simp [Fr.setRow]
  have gr : ∀ j, (rows.set i v).getD j undef = if i = j then v else rows.getD j undef := fun j => getD_set rows i j v undef (by omega)
  have gd : ∀ j, (f.setRow i d).data.getD j [] = if i = j then d else f.data.getD j [] := fun j => getD_set f.data i j d [] hi
  refine ⟨h.ne, ?_, ownsRow_setCell_other h.refs (by simp [Value.ownBlock]; exact Ne.symm h.ne) _, fun j hj => ?_, fun j hj b e => ?_, fun j k hj hk hjk b e e2 => ?_⟩
  · have := (h.data.stored i v).1
    rwa [hs]
  · rw [gr, gd]
    split
    · exact ownsRow_setCell_other hv (fun e => (h1 _ e).1 rfl) _
    · exact ownsRow_setCell_other (h.row j (by omega)) (fun e => (h.apart j (by omega) _ e).1 rfl) _
  · rw [gr] at e
    split at e
    · exact ⟨(h1 b e).1, (h1 b e).2.1⟩
    · exact h.apart j (by omega) b e
  · rw [gr] at e e2
    split at e
    · split at e2
      · omega
      · exact (h1 b e).2.2 k (by omega) (by omega) e2
    · split at e2
      · exact (h1 b e2).2.2 j (by omega) (by omega) e
      · exact h.each j k (by omega) (by omega) hjk b e e2
theorem OwnFr.setWord {w : World} {lo : Nat} {f : Fr} {bd cd br cr : Nat} {rows : List Value} (h : OwnFr w lo f bd cd br cr rows) (i : Nat) (hi : i < f.data.length) (g c : Nat) (hr : rows.getD i undef = .slice (some ⟨g, 0, none⟩) (f.data.getD i []).length c) (k : Nat) (x : Int) :
    OwnFr (w.setCell ⟨g, k, none⟩ (.int .i64 x)) lo (f.setRow i ((f.data.getD i []).set k x)) bd cd br cr rows := by
  have hs : (f.setRow i ((f.data.getD i []).set k x)).data.length = f.data.length := by simp [Fr.setRow]
  have gd : ∀ j, (f.setRow i ((f.data.getD i []).set k x)).data.getD j [] = if i = j then ((f.data.getD i []).set k x) else f.data.getD j [] := fun j => getD_set f.data i j _ [] hi
  have hg : (rows.getD i undef).ownBlock = some g := by rw [hr]; rfl
  have ha := h.apart i hi g hg
  refine ⟨h.ne, ?_, ownsRow_setCell_other h.refs (by simp [Value.ownBlock]; omega) _, fun j hj => ?_, fun j hj => h.apart j (by omega), fun j k hj hk => h.each j k (by omega) (by omega)⟩
  · rw [hs]; exact ownsRow_setCell_other h.data (by simp [Value.ownBlock]; omega) _
  · rw [gd]
    split
    · rename_i e
      subst e
      have h1 := h.row i hi
      rw [hr] at h1 ⊢
      have := (h1.stored k (.int .i64 x)).1
      rw [ints_set] at this
      rwa [List.length_set]
    · rename_i e
      exact ownsRow_setCell_other (h.row j (by omega)) (h.each i j hi (by omega) e g hg |> fun x y => x y) _
end Go.Proofs.Ytipppemkcbgecaa
