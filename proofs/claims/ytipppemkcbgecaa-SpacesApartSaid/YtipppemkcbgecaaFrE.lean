/- frames.Take of frames that may be. -/
import Derived.Test.YtipppemkcbgecaaFrD
open Go Go.RowKit
namespace Go.Proofs.Ytipppemkcbgecaa
def zeros16 : List Int := List.replicate 16 0
def cells16 : Array Value := #[.int .i64 0, .int .i64 0, .int .i64 0, .int .i64 0, .int .i64 0, .int .i64 0, .int .i64 0, .int .i64 0, .int .i64 0, .int .i64 0, .int .i64 0, .int .i64 0, .int .i64 0, .int .i64 0, .int .i64 0, .int .i64 0]
theorem run_make16 (w : World) : (Instr.makeSlice 24 (.int .i64 16) (.int .i64 16)).run Try.prog w = .ok (.slice (some ⟨w.heap.size, 0, none⟩) 16 16) (w.alloc (.cells cells16 3)) := by kernel_rfl
theorem own16 (w : World) (lo : Nat) (h : lo ≤ w.heap.size) : (w.alloc (.cells cells16 3)).ownsRow lo 3 1 (.slice (some ⟨w.heap.size, 0, none⟩) 16 16) 16 (ints zeros16) :=
  World.ownsRow_lit w cells16 16 h (by decide) rfl
/-- What frames may be has short rows. -/
theorem Fr.Ok.rows {f : Fr} (h : f.Ok) (i : Nat) (hi : i < f.data.length) : (f.data.getD i []).length ≤ 16 := by
  have hi' : i < f.refs.length := by rw [← h.len]; exact hi
  by_cases h0 : f.refs.getD i 0 = 0
  · rw [h.free i hi' h0]; omega
  · rw [h.known i hi' h0]; omega
set_option maxRecDepth 100000
set_option maxHeartbeats 1000000 in
theorem frTake_none (p : Nat → Prop) (v : Value) (f : Fr) (w : World) (h : RdFr p w v f) (hok : f.Ok) (hi : idx f.refs 0 < 0) :
    Calls Try.prog 19 #[v] w fun e w' => e = .returned (.tuple #[.agg #[.slice none 0 0, .slice none 0 0], .int .i64 0, .int .i64 7]) ∧ Below w.heap.size w w' := by
  have HF := Lib.hid h
  have HO := Lib.hid hok
  obtain ⟨bd, od, cd, br, or_, cr, rows, rfl, hd, hr, hrows⟩ := h
  have HR := Lib.hid hr
  clear hd hr hrows hok
  generalize f.data.length = nd at *
  generalize hnr : f.refs.length = nr at *
  have HNR := Lib.hid hnr
  clear hnr
  go_enter Try.func19, Try.ntmps19
  go_wp2_with (first
    | (go_at_call 23; refine (frCheck_ok p _ f _ (HF.out.below (by go_grown)) HO.out).mono ?_; rintro e w1 ⟨rfl, hw1⟩; obtain ⟨hcl1, hfr1⟩ := bcell hw1; have hz1 : w.heap.size + 1 < w1.heap.size := (by have := hw1.size; simp at this; omega); have hz1' : w.heap.size < w1.heap.size := (by omega))
    | (go_at_call 24; refine (index_int p _ f.refs 0 _ (HR.out.below (below_up' (by go_grown) hw1))).mono ?_; rintro e w2 ⟨rfl, rfl⟩))
  refine bodyPost_ret (v := .tuple #[.agg #[.slice none 0 0, .slice none 0 0], .int .i64 0, .int .i64 7]) ?_ rfl ⟨rfl, ?_⟩
  · simp [results, Try.results19, go_sem, hcl1]
  · exact ((below_up' (by go_grown) hw1).setCell (by simp) _).setCell (by simp) _
/-- What Take does. -/
def Fr.take (f : Fr) (i : Nat) : Fr := (f.setRef i 1).setRow i zeros16
set_option maxHeartbeats 1000000 in
theorem frTake_some (p : Nat → Prop) (v : Value) (f : Fr) (w : World) (i : Nat) (h : RdFr p w v f) (hok : f.Ok) (hi : idx f.refs 0 = i) (hin : i < f.refs.length) (hrow0 : (f.data.getD i []).length = 0) :
    Calls Try.prog 19 #[v] w fun e w' => ∃ v', e = .returned (.tuple #[v', .int .i64 i, .int .i64 0]) ∧ RdFr (fun b => w.heap.size ≤ b) w' v' (f.take i) ∧ Below w.heap.size w w' := by
  have HF := Lib.hid h
  have HO := Lib.hid hok
  obtain ⟨bd0, od0, cd0, br0, or0, cr0, rows0, rfl, hd, hr, hrows⟩ := h
  have HR := Lib.hid hr
  clear hd hr hrows
  have hndr := hok.len
  clear hok
  obtain ⟨nd, hnd⟩ : ∃ n, f.data.length = n := ⟨_, rfl⟩
  obtain ⟨nr, hnr⟩ : ∃ n, f.refs.length = n := ⟨_, rfl⟩
  rw [hnd] at hndr
  rw [hnr] at hin hndr
  have hin2 : i < nd := by omega
  have HCP : Hid (∀ W, Below w.heap.size w W → Calls Try.prog 25 #[.agg #[.slice (some ⟨bd0, od0, none⟩) nd cd0, .slice (some ⟨br0, or0, none⟩) nr cr0]] W fun e w' => ∃ bd cd br cr rows, e = .returned (.agg #[.slice (some ⟨bd, 0, none⟩) nd cd, .slice (some ⟨br, 0, none⟩) nr cr]) ∧ OwnFr w' W.heap.size f bd cd br cr rows ∧ Below W.heap.size W w') := by
    intro W hW
    have := frCopy p _ f W (HF.out.below hW) (by rw [HO.out.len]; exact HO.out.most) HO.out.most HO.out.rows
    rw [hnd, hnr] at this
    exact this
  rw [hnd, hnr]
  rw [hnd, hnr] at HF
  rw [hnr] at HR
  have HND := Lib.hid hnd
  have HNR := Lib.hid hnr
  have HI := Lib.hid hi
  have HDR := Lib.hid hndr
  have HRW := Lib.hid hrow0
  clear hnd hnr hi hndr hrow0
  have hmk := run_make16
  go_enter Try.func19, Try.ntmps19
  go_wp2_with (first
    | (go_at_call 23; refine (frCheck_ok p _ f _ (HF.out.below (by go_grown)) HO.out).mono ?_; rintro e w1 ⟨rfl, hw1⟩; obtain ⟨hcl1, hfr1⟩ := bcell hw1; have hz1 : w.heap.size + 1 < w1.heap.size := (by have := hw1.size; simp at this; omega); have hz1' : w.heap.size < w1.heap.size := (by omega))
    | (go_at_call 24; refine (index_int p _ f.refs 0 _ (HR.out.below (below_up' (by go_grown) hw1))).mono ?_; rintro e w2 ⟨rfl, rfl⟩; rw [HI.out])
    | (go_at_call 25; refine (HCP.out _ (below_up' (by go_grown) hw1)).mono ?_; rintro e w3 ⟨bd, cd, br, cr, rows, rfl, hown, hw3⟩; obtain ⟨hcl3, hfr3⟩ := bcell hw3))
  have lz := hw3.size
  have l1 := hown.data.lt bd rfl
  have l2 := hown.refs.lt br rfl
  have hz3 : w.heap.size < w3.heap.size := by omega
  have hz3' : w.heap.size + 1 < w3.heap.size := by omega
  have O4 := (hown.other (a := ⟨w.heap.size, 0, none⟩) (by simp; omega) (.slice (some ⟨bd, 0, none⟩) nd cd)).other (a := ⟨w.heap.size, 1, none⟩) (by simp; omega) (.slice (some ⟨br, 0, none⟩) nr cr)
  have B4 : Below w.heap.size w ((w3.setCell ⟨w.heap.size, 0, none⟩ (.slice (some ⟨bd, 0, none⟩) nd cd)).setCell ⟨w.heap.size, 1, none⟩ (.slice (some ⟨br, 0, none⟩) nr cr)) := ((below_up' (below_up' (by go_grown) hw1) hw3).setCell (by simp) _).setCell (by simp) _
  have K4 : Blk ((w3.setCell ⟨w.heap.size, 0, none⟩ (.slice (some ⟨bd, 0, none⟩) nd cd)).setCell ⟨w.heap.size, 1, none⟩ (.slice (some ⟨br, 0, none⟩) nr cr)) w.heap.size 40 #[.slice (some ⟨bd, 0, none⟩) nd cd, .slice (some ⟨br, 0, none⟩) nr cr] := by
    have := (((((Blk.at_alloc w 40 #[.slice (some ⟨bd0, od0, none⟩) nd cd0, .slice (some ⟨br0, or0, none⟩) nr cr0]).alloc (.cells #[.slice none 0 0, .slice none 0 0] 40)).below hw1).below hw3).set 0 (.slice (some ⟨bd, 0, none⟩) nd cd)).set 1 (.slice (some ⟨br, 0, none⟩) nr cr)
    simpa using this
  have K5 : Blk ((w3.setCell ⟨w.heap.size, 0, none⟩ (.slice (some ⟨bd, 0, none⟩) nd cd)).setCell ⟨w.heap.size, 1, none⟩ (.slice (some ⟨br, 0, none⟩) nr cr)) (w.heap.size + 1) 40 #[.slice none 0 0, .slice none 0 0] :=
    ((((Blk.at_alloc2 w _ 40 #[.slice none 0 0, .slice none 0 0]).below hw1).below hw3).other (by simp) _).other (by simp) _
  generalize (w3.setCell ⟨w.heap.size, 0, none⟩ (.slice (some ⟨bd, 0, none⟩) nd cd)).setCell ⟨w.heap.size, 1, none⟩ (.slice (some ⟨br, 0, none⟩) nr cr) = w4 at *
  have lo3 : w.heap.size + 2 ≤ w1.heap.size := by omega
  clear hcl3 hfr3 hcl1 hfr1 hz1 hz1' hz3 hz3' hown hw3 lz
  have O5 := Lib.hid (O4.base lo3)
  clear O4 l1 l2
  have l1 := O5.out.data.lt bd rfl
  have l2 := O5.out.refs.lt br rfl
  have c0 := K4.cell 0
  have c1 := K4.cell 1
  have c2 := O5.out.refs.cellAt i (by rw [HNR.out]; omega)
  have c3 := O5.out.data.cellAt i (by rw [HND.out]; omega)
  have f2 := O5.out.refs.frozenAt i
  have f3 := O5.out.data.frozenAt i
  rw [ints_at f.refs i (by rw [HNR.out]; exact hin)] at c2
  rw [getD_some rows i undef (by have := O5.out.data.1; rw [HND.out] at this; omega)] at c3
  simp at c0 c1
  obtain ⟨y, hy⟩ : ∃ y, f.refs.getD i 0 = y := ⟨_, rfl⟩
  obtain ⟨z, hz⟩ : ∃ z, rows.getD i undef = z := ⟨_, rfl⟩
  rw [hy] at c2
  rw [hz] at c3
  clear hy hz
  have n1 : bd ≠ br := O5.out.ne
  have n2 : br ≠ bd := Ne.symm n1
  have z1 : w.heap.size < w4.heap.size := K4.lt
  have z2 : bd < w4.heap.size := l1.2
  have z3 : br < w4.heap.size := l2.2
  have HB4 := Lib.hid B4
  have HK5 := Lib.hid K5
  clear B4 K4 K5
  go_region
  have c5 := HK5.out.cell 0
  have c6 := HK5.out.cell 1
  have f5 := HK5.out.frozen 0
  have f6 := HK5.out.frozen 1
  simp at c5 c6
  have z5 : w.heap.size + 1 < w4.heap.size := HK5.out.lt
  have m1 : w.heap.size + 1 ≠ bd := by omega
  have m2 : w.heap.size + 1 ≠ br := by omega
  have m3 : w.heap.size ≠ bd := by omega
  have m4 : w.heap.size ≠ br := by omega
  go_wp2
  have e : ((((w4.alloc (.cells cells16 3)).setCell ⟨br, i, none⟩ (.int .i64 1)).setCell ⟨bd, i, none⟩ (.slice (some ⟨w4.heap.size, 0, none⟩) 16 16)).setCell ⟨w.heap.size + 1, 0, none⟩ (.slice (some ⟨bd, 0, none⟩) nd cd)).setCell ⟨w.heap.size + 1, 1, none⟩ (.slice (some ⟨br, 0, none⟩) nr cr)
      = ((((w4.setCell ⟨br, i, none⟩ (.int .i64 1)).setCell ⟨bd, i, none⟩ (.slice (some ⟨w4.heap.size, 0, none⟩) 16 16)).setCell ⟨w.heap.size + 1, 0, none⟩ (.slice (some ⟨bd, 0, none⟩) nd cd)).setCell ⟨w.heap.size + 1, 1, none⟩ (.slice (some ⟨br, 0, none⟩) nr cr)).alloc (.cells cells16 3) := by
    rw [World.setCell_alloc_past _ _ _ _ z3, World.setCell_alloc_past _ _ _ _ (by simpa using z2), World.setCell_alloc_past _ _ _ _ (by simpa using z5), World.setCell_alloc_past _ _ _ _ (by simpa using z5)]
  have O6 := O5.out.alloc (.cells cells16 3)
  have O7 := O6.setRef i 1
  have O8 := O7.setRow i (by show i < f.data.length; rw [HND.out]; omega) (.slice (some ⟨w4.heap.size, 0, none⟩) 16 16) zeros16
    (ownsRow_setCell_other (own16 w4 (w.heap.size + 2) (by omega)) (by simp [Value.ownBlock]; omega) _)
    (fun b hb => by
      simp [Value.ownBlock] at hb
      subst hb
      refine ⟨by omega, by omega, fun j hj hne he => ?_⟩
      have := (O5.out.row j hj).lt _ he
      omega)
  have O9 := (O8.other (a := ⟨w.heap.size + 1, 0, none⟩) (by simp) (.slice (some ⟨bd, 0, none⟩) nd cd)).other (a := ⟨w.heap.size + 1, 1, none⟩) (by simp) (.slice (some ⟨br, 0, none⟩) nr cr)
  rw [e] at O9
  have R9 := O9.reads
  refine bodyPost_ret (v := .tuple #[.agg #[.slice (some ⟨bd, 0, none⟩) nd cd, .slice (some ⟨br, 0, none⟩) nr cr], .int .i64 i, .int .i64 0]) ?_ rfl ⟨_, rfl, ?_, ?_⟩
  · simp [results, Try.results19, go_sem, c5, c6, z5]
  · have e1 : (f.take i).data.length = nd := by simp [Fr.take, Fr.setRow, Fr.setRef, HND.out]
    have e2 : (f.take i).refs.length = nr := by simp [Fr.take, Fr.setRow, Fr.setRef, HNR.out]
    have R := R9.mono (q := fun b => w.heap.size ≤ b) (fun b hb => by omega)
    change RdFr _ _ (.agg #[.slice (some ⟨bd, 0, none⟩) (f.take i).data.length cd, .slice (some ⟨br, 0, none⟩) (f.take i).refs.length cr]) (f.take i) at R
    rw [e1, e2] at R
    exact R.upd (S := fun _ => False) (Upd.drew _ _) (fun _ _ h => h)
  · exact ((((HB4.out.setCell (by simp; omega) _).setCell (by simp; omega) _).setCell (by simp) _).setCell (by simp) _ |>.alloc (by simp; omega) _).drew
end Go.Proofs.Ytipppemkcbgecaa
