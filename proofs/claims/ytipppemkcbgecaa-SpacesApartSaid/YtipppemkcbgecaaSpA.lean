/- Spaces and their host on memory. -/
import Derived.Test.YtipppemkcbgecaaFrJ
open Go Go.RowKit
namespace Go.Proofs.Ytipppemkcbgecaa
/-- The cells of a space: its host, the frame of each page, what was refused. -/
def spCells (h : Nat) (pg : List Int) (fl : Int) : Array Value := (Value.pointer (some ⟨h, 0, none⟩) :: (ints pg ++ [.int .i64 fl])).toArray
theorem spCells_host (h : Nat) (pg : List Int) (fl : Int) : (spCells h pg fl)[0]? = some (.pointer (some ⟨h, 0, none⟩)) := by simp [spCells]
theorem spCells_page (h : Nat) (pg : List Int) (fl : Int) (i : Nat) (hi : i < pg.length) : (spCells h pg fl)[1 + i]? = some (.int .i64 (pg.getD i 0)) := by
  have := ints_at pg i hi
  rw [Nat.add_comm]
  simp only [spCells, List.getElem?_toArray, List.getElem?_cons_succ]
  rw [List.getElem?_append_left (by rw [ints_len]; exact hi), this]
theorem spCells_fault (h : Nat) (pg : List Int) (fl : Int) (hl : pg.length = 16) : (spCells h pg fl)[17]? = some (.int .i64 fl) := by
  simp only [spCells, List.getElem?_toArray, List.getElem?_cons_succ]
  rw [List.getElem?_append_right (by rw [ints_len]; omega), ints_len, hl]
  rfl
theorem spCells_set (h : Nat) (pg : List Int) (fl : Int) (i : Nat) (x : Int) (hi : i < pg.length) : (spCells h pg fl).setIfInBounds (1 + i) (.int .i64 x) = spCells h (pg.set i x) fl := by
  rw [Nat.add_comm]
  simp only [spCells, List.setIfInBounds_toArray, List.set_cons_succ]
  rw [List.set_append_left _ _ (by rw [ints_len]; exact hi), ints_set]
theorem spCells_setFault (h : Nat) (pg : List Int) (fl x : Int) (hl : pg.length = 16) : (spCells h pg fl).setIfInBounds 17 (.int .i64 x) = spCells h pg x := by
  simp only [spCells, List.setIfInBounds_toArray, List.set_cons_succ]
  rw [List.set_append_right _ _ (by rw [ints_len]; omega), ints_len, hl]
  rfl
/-- A space. -/
structure Sp (w : World) (s h : Nat) (pg : List Int) (fl : Int) : Prop where
  blk : Blk w s 58 (spCells h pg fl)
  len : pg.length = 16
theorem Sp.host {w : World} {s h : Nat} {pg : List Int} {fl : Int} (H : Sp w s h pg fl) : w.cell? ⟨s, 0, none⟩ = some (.pointer (some ⟨h, 0, none⟩)) := by rw [H.blk.cell, spCells_host]
theorem Sp.page {w : World} {s h : Nat} {pg : List Int} {fl : Int} (H : Sp w s h pg fl) (i : Nat) (hi : i < 16) : w.cell? ⟨s, 1 + i, none⟩ = some (.int .i64 (pg.getD i 0)) := by rw [H.blk.cell, spCells_page _ _ _ _ (by rw [H.len]; exact hi)]
theorem Sp.fault {w : World} {s h : Nat} {pg : List Int} {fl : Int} (H : Sp w s h pg fl) : w.cell? ⟨s, 17, none⟩ = some (.int .i64 fl) := by rw [H.blk.cell, spCells_fault _ _ _ H.len]
theorem Sp.setPage {w : World} {s h : Nat} {pg : List Int} {fl : Int} (H : Sp w s h pg fl) (i : Nat) (hi : i < 16) (x : Int) : Sp (w.setCell ⟨s, 1 + i, none⟩ (.int .i64 x)) s h (pg.set i x) fl := by
  refine ⟨?_, by rw [List.length_set, H.len]⟩
  have := H.blk.set (1 + i) (.int .i64 x)
  rwa [spCells_set _ _ _ _ _ (by rw [H.len]; exact hi)] at this
theorem Sp.setFault {w : World} {s h : Nat} {pg : List Int} {fl : Int} (H : Sp w s h pg fl) (x : Int) : Sp (w.setCell ⟨s, 17, none⟩ (.int .i64 x)) s h pg x := by
  refine ⟨?_, H.len⟩
  have := H.blk.set 17 (.int .i64 x)
  rwa [spCells_setFault _ _ _ _ H.len] at this
theorem Sp.upd {S : Nat → Prop} {w w' : World} {s h : Nat} {pg : List Int} {fl : Int} (H : Sp w s h pg fl) (hu : Upd S w w') (hS : ¬ S s) : Sp w' s h pg fl := ⟨H.blk.upd hu hS, H.len⟩
theorem Sp.below {w w' : World} {s h : Nat} {pg : List Int} {fl : Int} (H : Sp w s h pg fl) (hb : Below w.heap.size w w') : Sp w' s h pg fl := ⟨H.blk.below hb, H.len⟩
theorem Sp.other {w : World} {s h : Nat} {pg : List Int} {fl : Int} (H : Sp w s h pg fl) {a : Addr} (ha : s ≠ a.block) (v : Value) : Sp (w.setCell a v) s h pg fl := ⟨H.blk.other ha v, H.len⟩
theorem Sp.lt {w : World} {s h : Nat} {pg : List Int} {fl : Int} (H : Sp w s h pg fl) : s < w.heap.size := H.blk.lt
/-- A host whose frames lean on no block of M. -/
structure Ho (M : Nat → Prop) (w : World) (h : Nat) (d r : Value) (f : Fr) : Prop where
  blk : Blk w h 45 #[d, r]
  reads : RdFr (fun b => ¬ M b ∧ b < w.heap.size) w (.agg #[d, r]) f
  ok : f.Ok
  mem : M h
theorem RdFr.in_heap {p : Nat → Prop} {w : World} {v : Value} {f : Fr} (h : RdFr p w v f) : RdFr (fun b => p b ∧ b < w.heap.size) w v f := by
  obtain ⟨bd, od, cd, br, or_, cr, rows, h1, h2, h3, h4⟩ := h
  exact ⟨bd, od, cd, br, or_, cr, rows, h1, RdK.in_heap h2 (by decide), RdK.in_heap h3 (by decide), h4.1, fun i hi => RdK.in_heap (h4.2 i hi) (by decide)⟩
theorem Ho.c0 {M : Nat → Prop} {w : World} {h : Nat} {d r : Value} {f : Fr} (H : Ho M w h d r f) : w.cell? ⟨h, 0, none⟩ = some d := by rw [H.blk.cell]; rfl
theorem Ho.c1 {M : Nat → Prop} {w : World} {h : Nat} {d r : Value} {f : Fr} (H : Ho M w h d r f) : w.cell? ⟨h, 1, none⟩ = some r := by rw [H.blk.cell]; rfl
theorem Ho.upd {M S : Nat → Prop} {w w' : World} {h : Nat} {d r : Value} {f : Fr} (H : Ho M w h d r f) (hu : Upd S w w') (hh : ¬ S h) (hS : ∀ b, S b → b < w.heap.size → M b) : Ho M w' h d r f :=
  ⟨H.blk.upd hu hh, (H.reads.upd hu (fun b hb hs => hb.1 (hS b hs hb.2))).mono (fun _ hb => ⟨hb.1, Nat.lt_of_lt_of_le hb.2 hu.size⟩), H.ok, H.mem⟩
theorem Ho.below {M : Nat → Prop} {w w' : World} {h : Nat} {d r : Value} {f : Fr} (H : Ho M w h d r f) (hb : Below w.heap.size w w') : Ho M w' h d r f := H.upd (S := fun _ => False) (Upd.of_below hb) (fun x => x) (fun _ x => x.elim)
/-- One more block is written. -/
theorem Ho.more {M N : Nat → Prop} {w : World} {h : Nat} {d r : Value} {f : Fr} (H : Ho M w h d r f) (hN : ∀ b, N b → b < w.heap.size → M b) (hh : N h) : Ho N w h d r f :=
  ⟨H.blk, H.reads.mono (fun b hb => ⟨fun hn => hb.1 (hN b hn hb.2), hb.2⟩), H.ok, hh⟩
/-- The host gets other frames, of newer memory. -/
theorem Ho.put {M : Nat → Prop} {w w' : World} {h : Nat} {d r d' r' : Value} {f f' : Fr} (H : Ho M w h d r f) (hM : ∀ b, M b → b < w.heap.size) (hb : Below w.heap.size w w') (hr : RdFr (fun b => w.heap.size ≤ b) w' (.agg #[d', r']) f') (hok : f'.Ok) :
    Ho M ((w'.setCell ⟨h, 0, none⟩ d').setCell ⟨h, 1, none⟩ r') h d' r' f' := by
  have hh := H.blk.lt
  have hu : Upd (fun b => b = h) w' ((w'.setCell ⟨h, 0, none⟩ d').setCell ⟨h, 1, none⟩ r') := (Upd.setCell (S := fun b => b = h) rfl _).trans (Upd.setCell (S := fun b => b = h) rfl _)
  refine ⟨?_, ?_, hok, H.mem⟩
  · have := ((H.blk.below hb).set 0 d').set 1 r'
    simpa using this
  · refine ((hr.in_heap).upd hu (fun b hb hs => by have := hb.1; omega)).mono (fun b hb => ⟨fun hm => ?_, ?_⟩)
    · have := hM b hm
      have := hb.1
      omega
    · exact Nat.lt_of_lt_of_le hb.2 hu.size
set_option maxRecDepth 100000
set_option maxHeartbeats 2000000 in
/-- (*Host).Space. -/
theorem hostSpace (w : World) (h : Nat) :
    Calls Try.prog 12 #[.pointer (some ⟨h, 0, none⟩)] w fun e w' => e = .returned (.pointer (some ⟨w.heap.size, 0, none⟩)) ∧ Sp w' w.heap.size h (List.replicate 16 (-1)) 0 ∧ Below w.heap.size w w' := by
  go_enter Try.func12, Try.ntmps12
  go_wp2
  go_rounds 17
  go_ret
  exact ⟨rfl, ⟨Blk.at_alloc w _ _, rfl⟩, by go_grown⟩
end Go.Proofs.Ytipppemkcbgecaa
