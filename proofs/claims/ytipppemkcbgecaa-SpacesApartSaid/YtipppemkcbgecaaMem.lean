/- Words on memory: a block known whole, a slice that reads as a list, each with the blocks that it leans on. -/
import Derived.Test.YtipppemkcbgecaaBase
import Derived.Maps.AppendAt
import Derived.OneCell
open Go Go.RowKit
namespace Go.Proofs.Ytipppemkcbgecaa

theorem add_at (b o j : Nat) : (⟨b, o, none⟩ : Addr).add j = ⟨b, o + j, none⟩ := by unfold Addr.add; split <;> simp_all
/-- Block b holds just these cells; none is frozen. -/
def Blk (w : World) (b : Nat) (t : TypeId) (cs : Array Value) : Prop := w.heap[b]? = some (.cells cs t (0, 0))
theorem Blk.lt {w : World} {b : Nat} {t : TypeId} {cs : Array Value} (h : Blk w b t cs) : b < w.heap.size := (Array.getElem?_eq_some_iff.1 h).1
theorem Blk.cell {w : World} {b : Nat} {t : TypeId} {cs : Array Value} (h : Blk w b t cs) (i : Nat) : w.cell? ⟨b, i, none⟩ = cs[i]? := by
  unfold Blk at h
  simp [World.cell?, h]
theorem Blk.frozen {w : World} {b : Nat} {t : TypeId} {cs : Array Value} (h : Blk w b t cs) (i : Nat) : w.frozen? ⟨b, i, none⟩ = false := by
  unfold Blk at h
  simp [World.frozen?, h]
theorem Blk.of_same {w w' : World} {b : Nat} {t : TypeId} {cs : Array Value} (h : Blk w b t cs) (hs : w'.heap[b]? = w.heap[b]?) : Blk w' b t cs := hs.trans h
theorem Blk.below {w w' : World} {b : Nat} {t : TypeId} {cs : Array Value} (h : Blk w b t cs) (hb : Below w.heap.size w w') : Blk w' b t cs := h.of_same (hb.block b h.lt)
theorem Blk.at_alloc (w : World) (t : TypeId) (cs : Array Value) : Blk (w.alloc (.cells cs t)) w.heap.size t cs := heap_alloc_new _ _
theorem Blk.at_alloc2 (w : World) (o : Obj) (t : TypeId) (cs : Array Value) : Blk ((w.alloc o).alloc (.cells cs t)) (w.heap.size + 1) t cs := by
  have := Blk.at_alloc (w.alloc o) t cs
  rwa [World.size_alloc] at this
theorem Blk.alloc {w : World} {b : Nat} {t : TypeId} {cs : Array Value} (h : Blk w b t cs) (o : Obj) : Blk (w.alloc o) b t cs := h.of_same (Below.heap_alloc _ _ _ h.lt)
theorem Blk.drew {w : World} {b : Nat} {t : TypeId} {cs : Array Value} (h : Blk w b t cs) : Blk w.drew b t cs := h
theorem Blk.drewN {w : World} {b : Nat} {t : TypeId} {cs : Array Value} (h : Blk w b t cs) (n : Nat) : Blk (w.drewN n) b t cs := h
theorem Blk.other {w : World} {b : Nat} {t : TypeId} {cs : Array Value} (h : Blk w b t cs) {a : Addr} (hne : b ≠ a.block) (v : Value) : Blk (w.setCell a v) b t cs := h.of_same (Below.heap_setCell _ _ _ _ hne)
theorem Blk.set {w : World} {b : Nat} {t : TypeId} {cs : Array Value} (h : Blk w b t cs) (i : Nat) (v : Value) : Blk (w.setCell ⟨b, i, none⟩ v) b t (cs.setIfInBounds i v) := by
  unfold Blk at *
  simp [World.setCell, Array.getElem?_modify, h]

/-- The world w' is w but for blocks in S and new ones. -/
structure Upd (S : Nat → Prop) (w w' : World) : Prop where
  os : w'.os = w.os
  tape : w'.tape = w.tape
  output : w'.output = w.output
  size : w.heap.size ≤ w'.heap.size
  block : ∀ b, b < w.heap.size → ¬ S b → w'.heap[b]? = w.heap[b]?
theorem Upd.refl (S : Nat → Prop) (w : World) : Upd S w w := ⟨rfl, rfl, rfl, Nat.le_refl _, fun _ _ _ => rfl⟩
theorem Upd.of_below {S : Nat → Prop} {w w' : World} (h : Below w.heap.size w w') : Upd S w w' := ⟨h.os, h.tape, h.output, h.size, fun b hb _ => h.block b hb⟩
theorem Upd.below {w w' : World} (h : Upd (fun _ => False) w w') : Below w.heap.size w w' := ⟨h.os, h.tape, h.output, h.size, fun b hb => h.block b hb (fun x => x)⟩
theorem Upd.trans {S : Nat → Prop} {a b c : World} (h : Upd S a b) (k : Upd S b c) : Upd S a c :=
  ⟨k.os.trans h.os, k.tape.trans h.tape, k.output.trans h.output, Nat.le_trans h.size k.size, fun i hi hS => (k.block i (Nat.lt_of_lt_of_le hi h.size) hS).trans (h.block i hi hS)⟩
theorem Upd.mono {S T : Nat → Prop} {a b : World} (h : Upd S a b) (hST : ∀ i, i < a.heap.size → S i → T i) : Upd T a b :=
  ⟨h.os, h.tape, h.output, h.size, fun i hi hT => h.block i hi (fun hS => hT (hST i hi hS))⟩
/-- The second step may also write what the first one made. -/
theorem Upd.then {S T : Nat → Prop} {a b c : World} (h : Upd S a b) (k : Upd T b c) (hT : ∀ i, i < a.heap.size → T i → S i) : Upd S a c :=
  ⟨k.os.trans h.os, k.tape.trans h.tape, k.output.trans h.output, Nat.le_trans h.size k.size, fun i hi hS => (k.block i (Nat.lt_of_lt_of_le hi h.size) (fun x => hS (hT i hi x))).trans (h.block i hi hS)⟩
theorem Upd.setCell {S : Nat → Prop} {w : World} {b i : Nat} (hS : S b) (v : Value) : Upd S w (w.setCell ⟨b, i, none⟩ v) :=
  ⟨rfl, rfl, rfl, by simp [World.setCell], fun k _ hk => Below.heap_setCell _ _ _ _ (fun e => hk (e ▸ hS))⟩
theorem Upd.alloc (S : Nat → Prop) (w : World) (o : Obj) : Upd S w (w.alloc o) := ⟨rfl, rfl, rfl, by simp, fun _ hb _ => Below.heap_alloc _ _ _ hb⟩
theorem Upd.drew (S : Nat → Prop) (w : World) : Upd S w w.drew := ⟨rfl, rfl, rfl, Nat.le_refl _, fun _ _ _ => rfl⟩
theorem Upd.drewN (S : Nat → Prop) (w : World) (n : Nat) : Upd S w (w.drewN n) := ⟨rfl, rfl, rfl, Nat.le_refl _, fun _ _ _ => rfl⟩
theorem Blk.upd {S : Nat → Prop} {w w' : World} {b : Nat} {t : TypeId} {cs : Array Value} (h : Blk w b t cs) (hu : Upd S w w') (hS : ¬ S b) : Blk w' b t cs := h.of_same (hu.block b h.lt hS)

/-- A slice of k cells an element reads as these cells; the block that it leans on is in p. -/
def RdK (p : Nat → Prop) (w : World) (k : Nat) (v : Value) (n : Nat) (l : List Value) : Prop :=
  ∃ A c, v = .slice A n c ∧ l.length = n * k ∧ n ≤ c ∧ c ≤ maxLen ∧ (A = none → n = 0 ∧ c = 0) ∧
    (∀ a, A = some a → a.spot = none) ∧
    (0 < n → ∃ b o, A = some ⟨b, o, none⟩ ∧ p b ∧ ∀ j x, l[j]? = some x → w.cell? ⟨b, o + j, none⟩ = some x)
abbrev RdL (p : Nat → Prop) (w : World) (v : Value) (l : List Value) : Prop := RdK p w 1 v l.length l
theorem RdK.of_same {p : Nat → Prop} {w w' : World} {k : Nat} {v : Value} {n : Nat} {l : List Value} (h : RdK p w k v n l) (hs : ∀ b, p b → w'.heap[b]? = w.heap[b]?) : RdK p w' k v n l := by
  obtain ⟨A, c, h1, h2, h3, h4, h5, h6, h7⟩ := h
  refine ⟨A, c, h1, h2, h3, h4, h5, h6, fun hn => ?_⟩
  obtain ⟨b, o, e, hp, hc⟩ := h7 hn
  exact ⟨b, o, e, hp, fun j x hx => by rw [World.cell?_of_block (w := w) (hs b hp)]; exact hc j x hx⟩
theorem RdK.mono {p q : Nat → Prop} {w : World} {k : Nat} {v : Value} {n : Nat} {l : List Value} (h : RdK p w k v n l) (hpq : ∀ b, p b → q b) : RdK q w k v n l := by
  obtain ⟨A, c, h1, h2, h3, h4, h5, h6, h7⟩ := h
  refine ⟨A, c, h1, h2, h3, h4, h5, h6, fun hn => ?_⟩
  obtain ⟨b, o, e, hp, hc⟩ := h7 hn
  exact ⟨b, o, e, hpq b hp, hc⟩
/-- Some cell is read there: the block lies in the heap. -/
theorem RdK.in_heap {p : Nat → Prop} {w : World} {k : Nat} {v : Value} {n : Nat} {l : List Value} (h : RdK p w k v n l) (hk : 0 < k) : RdK (fun b => p b ∧ b < w.heap.size) w k v n l := by
  obtain ⟨A, c, h1, h2, h3, h4, h5, h6, h7⟩ := h
  refine ⟨A, c, h1, h2, h3, h4, h5, h6, fun hn => ?_⟩
  obtain ⟨b, o, e, hp, hc⟩ := h7 hn
  have hl : 0 < l.length := by rw [h2]; exact Nat.mul_pos hn hk
  have := hc 0 l[0] (List.getElem?_eq_getElem hl)
  exact ⟨b, o, e, ⟨hp, World.block_lt_of_cell? w _ this⟩, hc⟩
theorem RdK.below {p : Nat → Prop} {w w' : World} {k : Nat} {v : Value} {n : Nat} {l : List Value} (h : RdK p w k v n l) (hk : 0 < k) (hb : Below w.heap.size w w') : RdK p w' k v n l :=
  ((h.in_heap hk).of_same fun b hp => hb.block b hp.2).mono fun _ hp => hp.1
theorem RdK.upd {S p : Nat → Prop} {w w' : World} {k : Nat} {v : Value} {n : Nat} {l : List Value} (h : RdK p w k v n l) (hk : 0 < k) (hu : Upd S w w') (hS : ∀ b, p b → ¬ S b) : RdK p w' k v n l :=
  ((h.in_heap hk).of_same fun b hp => hu.block b hp.2 (hS b hp.1)).mono fun _ hp => hp.1
theorem RdK.form {p : Nat → Prop} {w : World} {k : Nat} {v : Value} {n : Nat} {l : List Value} (h : RdK p w k v n l) : ∃ A c, v = .slice A n c ∧ n ≤ c ∧ c ≤ maxLen :=
  let ⟨A, c, h1, _, h3, h4, _⟩ := h; ⟨A, c, h1, h3, h4⟩
theorem RdK.len {p : Nat → Prop} {w : World} {k : Nat} {v : Value} {n : Nat} {l : List Value} (h : RdK p w k v n l) : l.length = n * k := let ⟨_, _, _, h2, _⟩ := h; h2
theorem RdK.nil (p : Nat → Prop) (w : World) (k : Nat) : RdK p w k (.slice none 0 0) 0 [] := ⟨none, 0, rfl, by simp, Nat.le_refl _, Nat.zero_le _, fun _ => ⟨rfl, rfl⟩, (fun _ h => by cases h), fun h => absurd h (Nat.lt_irrefl _)⟩
/-- At an index: where the slice leads, and each cell of that element. -/
theorem RdK.at_ {p : Nat → Prop} {w : World} {k : Nat} {v : Value} {n : Nat} {l : List Value} (h : RdK p w k v n l) (hn : 0 < n) :
    ∃ b o c, v = .slice (some ⟨b, o, none⟩) n c ∧ n ≤ c ∧ c ≤ maxLen ∧ p b ∧ ∀ j x, l[j]? = some x → w.cell? ⟨b, o + j, none⟩ = some x := by
  obtain ⟨A, c, h1, h2, h3, h4, h5, h6, h7⟩ := h
  obtain ⟨b, o, rfl, hp, hc⟩ := h7 hn
  exact ⟨b, o, c, h1, h3, h4, hp, hc⟩

theorem own_below {w w1 : World} {base : Nat} {e : TypeId} {k n : Nat} {v : Value} {xs : List Value} (h : w.ownsRow base e k v n xs) (hb : Below w.heap.size w w1) : w1.ownsRow base e k v n xs :=
  h.kept (row := none) ⟨hb.os, hb.tape, hb.output, hb.size, fun i hi _ => hb.block i hi⟩ (by cases v.ownBlock <;> simp)
theorem own_base_le {w : World} {base base' : Nat} {e : TypeId} {k n : Nat} {v : Value} {xs : List Value} (h : w.ownsRow base e k v n xs) (hb : base' ≤ base) : w.ownsRow base' e k v n xs := by
  refine ⟨h.1, ?_⟩
  rcases h.2 with h | ⟨g, cap, cur, h1, h2, h3⟩
  · exact .inl h
  · exact .inr ⟨g, cap, cur, h1, Nat.le_trans hb h2, h3⟩
def ints (l : List Int) : List Value := l.map (Value.int .i64)
theorem ints_len (l : List Int) : (ints l).length = l.length := by simp [ints]
theorem ints_at (l : List Int) (j : Nat) (h : j < l.length) : (ints l)[j]? = some (.int .i64 (l.getD j 0)) := by
  simp [ints, List.getElem?_eq_getElem h, List.getD_eq_getElem?_getD]
/-- A slice of int. -/
def RdI (p : Nat → Prop) (w : World) (v : Value) (l : List Int) : Prop := RdK p w 1 v l.length (ints l)
theorem RdI.at_ {p : Nat → Prop} {w : World} {v : Value} {l : List Int} (h : RdI p w v l) (hn : 0 < l.length) :
    ∃ b o c, v = .slice (some ⟨b, o, none⟩) l.length c ∧ l.length ≤ c ∧ c ≤ maxLen ∧ p b ∧ ∀ j, j < l.length → w.cell? ⟨b, o + j, none⟩ = some (.int .i64 (l.getD j 0)) := by
  obtain ⟨b, o, c, e, h1, h2, hp, hc⟩ := RdK.at_ h hn
  exact ⟨b, o, c, e, h1, h2, hp, fun j hj => hc j _ (ints_at l j hj)⟩
theorem RdI.form {p : Nat → Prop} {w : World} {v : Value} {l : List Int} (h : RdI p w v l) : ∃ A c, v = .slice A l.length c ∧ l.length ≤ c ∧ c ≤ maxLen := RdK.form h
theorem RdI.below {p : Nat → Prop} {w w' : World} {v : Value} {l : List Int} (h : RdI p w v l) (hb : Below w.heap.size w w') : RdI p w' v l := RdK.below h (by decide) hb
theorem RdI.upd {S p : Nat → Prop} {w w' : World} {v : Value} {l : List Int} (h : RdI p w v l) (hu : Upd S w w') (hS : ∀ b, p b → ¬ S b) : RdI p w' v l := RdK.upd h (by decide) hu hS
theorem RdI.mono {p q : Nat → Prop} {w : World} {v : Value} {l : List Int} (h : RdI p w v l) (hpq : ∀ b, p b → q b) : RdI q w v l := RdK.mono h hpq
/-- What a call owns reads so. -/
theorem rd_of_own {w : World} {base : Nat} {e : TypeId} {k : Nat} {v : Value} {n : Nat} {xs : List Value} (h : w.ownsRow base e k v n xs) : RdK (fun b => base ≤ b) w k v n xs := by
  rcases h.2 with ⟨rfl, rfl⟩ | ⟨g, cap, cur, rfl, hb, hh, h1, h2, h3, h4⟩
  · have : xs = [] := List.eq_nil_of_length_eq_zero (by simpa using h.1)
    subst this
    exact RdK.nil _ _ _
  · refine ⟨_, cap, rfl, h.1, h1, h2, (fun e => by cases e), (fun a e => by cases e; rfl), fun hn => ⟨g, 0, rfl, hb, fun j x hx => ?_⟩⟩
    have := h.cells (g := g) rfl j x hx
    rw [add_at, Nat.zero_add] at this
    rw [Nat.zero_add]; exact this
end Go.Proofs.Ytipppemkcbgecaa
