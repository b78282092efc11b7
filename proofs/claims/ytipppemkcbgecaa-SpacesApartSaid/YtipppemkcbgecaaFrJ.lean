/- frames.New. -/
import Derived.Test.YtipppemkcbgecaaFrI
open Go Go.RowKit
namespace Go.Proofs.Ytipppemkcbgecaa
def Fr.fresh (n : Nat) : Fr := ⟨List.replicate n [], List.replicate n 0⟩
theorem getD_replicate {α : Type} (n i : Nat) (x d : α) (h : i < n) : (List.replicate n x).getD i d = x := by simp [List.getD_eq_getElem?_getD, h]
theorem Fr.fresh_ok (n : Nat) (h : n ≤ 200) : (Fr.fresh n).Ok := by
  have hl : (Fr.fresh n).refs.length = n := by simp [Fr.fresh]
  have e1 : ∀ i, i < n → (Fr.fresh n).refs.getD i 0 = 0 := fun i hi => getD_replicate n i _ _ hi
  have e2 : ∀ i, i < n → (Fr.fresh n).data.getD i [] = [] := fun i hi => getD_replicate n i _ _ hi
  refine ⟨by simp [Fr.fresh], by omega, fun i hi => ?_, fun i hi _ => ?_, fun i hi h0 => ?_⟩
  all_goals rw [hl] at hi
  · rw [e1 i hi]; omega
  · rw [e2 i hi]; rfl
  · exact absurd (e1 i hi) h0
theorem made_own (w : World) (base : Nat) (e : TypeId) (z : Value) (n : Nat) (hb : base ≤ w.heap.size) (hn : n ≤ maxLen) :
    (w.alloc (.cells (madeCells #[z] n) e)).ownsRow base e 1 (.slice (some ⟨w.heap.size, 0, none⟩) n n) n (List.replicate n z) := by
  have := World.ownsRow_lit (size := 1) (e := e) w (madeCells #[z] n) n hb hn (by simp [size_madeCells])
  rwa [toList_madeCells_one] at this
theorem run_make_rows (w : World) (n : Nat) (hn : n ≤ 1000) : (Instr.makeSlice 38 (.int .i64 n) (.int .i64 n)).run Try.prog w = .ok (.slice (some ⟨w.heap.size, 0, none⟩) n n) (w.alloc (.cells (madeCells #[.slice none 0 0] n) 24)) := by
  obtain ⟨i, hi, hz0, hz1, hz2⟩ := zrow info_rows
  have := run_makeSlice (P := Try.prog) w 38 24 i (.slice none 0 0) Try.underlying38 hi hz0 .i64 .i64 n n (by omega) (Int.le_refl _) (by rw [hz1]; omega) (by rw [hz2]; omega) (by omega)
  rw [hz1] at this
  simpa [Value.cells] using this
theorem run_make_ints (w : World) (n : Nat) (hn : n ≤ 1000) : (Instr.makeSlice 24 (.int .i64 n) (.int .i64 n)).run Try.prog w = .ok (.slice (some ⟨w.heap.size, 0, none⟩) n n) (w.alloc (.cells (madeCells #[.int .i64 0] n) 3)) := by
  obtain ⟨i, hi, hz0, hz1, hz2⟩ := zrow info_int
  have := run_makeSlice (P := Try.prog) w 24 3 i (.int .i64 0) Try.underlying24 hi hz0 .i64 .i64 n n (by omega) (Int.le_refl _) (by rw [hz1]; omega) (by rw [hz2]; omega) (by omega)
  rw [hz1] at this
  simpa [Value.cells] using this
theorem fresh_reads {w : World} {lo a b n : Nat} (hd : w.ownsRow lo 24 1 (.slice (some ⟨a, 0, none⟩) n n) n (List.replicate n (.slice none 0 0))) (hr : w.ownsRow lo 3 1 (.slice (some ⟨b, 0, none⟩) n n) n (List.replicate n (.int .i64 0))) :
    RdFr (fun b => lo ≤ b) w (.agg #[.slice (some ⟨a, 0, none⟩) n n, .slice (some ⟨b, 0, none⟩) n n]) (Fr.fresh n) := by
  refine ⟨a, 0, n, b, 0, n, List.replicate n (.slice none 0 0), by simp [Fr.fresh], ?_, ?_, by simp [Fr.fresh], fun i hi => ?_⟩
  · have := rd_of_own hd
    simpa [Fr.fresh] using this
  · have := rd_of_own hr
    simpa [Fr.fresh, RdI, ints] using this
  · simp [Fr.fresh] at hi
    have e1 : (List.replicate n (Value.slice none 0 0)).getD i undef = .slice none 0 0 := by simp [List.getD_eq_getElem?_getD, hi]
    have e2 : (Fr.fresh n).data.getD i [] = [] := by simp [Fr.fresh, List.getD_eq_getElem?_getD, hi]
    rw [e1, e2]
    exact RdK.nil _ _ _
set_option maxRecDepth 100000
set_option maxHeartbeats 1000000 in
theorem frNew_ok (w : World) (n : Nat) (hn : n ≤ 200) :
    Calls Try.prog 11 #[.int .i64 n] w fun e w' => ∃ v', e = .returned (.tuple #[v', .int .i64 0]) ∧ RdFr (fun b => w.heap.size ≤ b) w' v' (Fr.fresh n) ∧ Below w.heap.size w w' := by
  have hm1 := fun w => run_make_rows w n (by omega)
  have hm2 := fun w => run_make_ints w n (by omega)
  have hmax : n ≤ maxLen := by simp [maxLen]; omega
  go_enter Try.func11, Try.ntmps11
  go_upto_region 3 with fail
  go_region
  all_goals go_wp2
  · have K := ((Blk.at_alloc w 40 #[.slice (some ⟨w.heap.size + 1, 0, none⟩) n n, .slice (some ⟨w.heap.size + 1 + 1, 0, none⟩) n n]).alloc (.cells (madeCells #[.slice none 0 0] n) 24)).alloc (.cells (madeCells #[.int .i64 0] n) 3)
    have c0 := K.drew.cell 0
    have c1 := K.drew.cell 1
    have o1 := (made_own (w.alloc (.cells #[.slice (some ⟨w.heap.size + 1, 0, none⟩) n n, .slice (some ⟨w.heap.size + 1 + 1, 0, none⟩) n n] 40)) w.heap.size 24 (.slice none 0 0) n (by simp) hmax).alloc (.cells (madeCells #[.int .i64 0] n) 3)
    have o2 := made_own ((w.alloc (.cells #[.slice (some ⟨w.heap.size + 1, 0, none⟩) n n, .slice (some ⟨w.heap.size + 1 + 1, 0, none⟩) n n] 40)).alloc (.cells (madeCells #[.slice none 0 0] n) 24)) w.heap.size 3 (.int .i64 0) n (by simp; omega) hmax
    simp at c0 c1
    have R := fresh_reads o1 o2
    simp only [World.size_alloc] at R
    refine bodyPost_ret (v := .tuple #[.agg #[.slice (some ⟨w.heap.size + 1, 0, none⟩) n n, .slice (some ⟨w.heap.size + 1 + 1, 0, none⟩) n n], .int .i64 0]) ?_ rfl ⟨_, rfl, R.upd (Upd.drew (fun _ => False) _) (fun _ _ h => h), by go_grown⟩
    simp [results, Try.results11, go_sem, c0, c1]
  · have K := ((Blk.at_alloc w 40 #[.slice (some ⟨w.heap.size + 1 + 1, 0, none⟩) n n, .slice (some ⟨w.heap.size + 1, 0, none⟩) n n]).alloc (.cells (madeCells #[.int .i64 0] n) 3)).alloc (.cells (madeCells #[.slice none 0 0] n) 24)
    have c0 := K.drew.cell 0
    have c1 := K.drew.cell 1
    have o1 := (made_own (w.alloc (.cells #[.slice (some ⟨w.heap.size + 1 + 1, 0, none⟩) n n, .slice (some ⟨w.heap.size + 1, 0, none⟩) n n] 40)) w.heap.size 3 (.int .i64 0) n (by simp) hmax).alloc (.cells (madeCells #[.slice none 0 0] n) 24)
    have o2 := made_own ((w.alloc (.cells #[.slice (some ⟨w.heap.size + 1 + 1, 0, none⟩) n n, .slice (some ⟨w.heap.size + 1, 0, none⟩) n n] 40)).alloc (.cells (madeCells #[.int .i64 0] n) 3)) w.heap.size 24 (.slice none 0 0) n (by simp; omega) hmax
    simp at c0 c1
    have R := fresh_reads o2 o1
    simp only [World.size_alloc] at R
    refine bodyPost_ret (v := .tuple #[.agg #[.slice (some ⟨w.heap.size + 1 + 1, 0, none⟩) n n, .slice (some ⟨w.heap.size + 1, 0, none⟩) n n], .int .i64 0]) ?_ rfl ⟨_, rfl, R.upd (Upd.drew (fun _ => False) _) (fun _ _ h => h), by go_grown⟩
    simp [results, Try.results11, go_sem, c0, c1]
set_option maxHeartbeats 400000 in
theorem frNew_bad (w : World) (n : Int) (hn : n < 0 ∨ 200 < n) :
    Calls Try.prog 11 #[.int .i64 n] w fun e w' => e = .returned (.tuple #[.agg #[.slice none 0 0, .slice none 0 0], .int .i64 2]) ∧ Below w.heap.size w w' := by
  go_enter Try.func11, Try.ntmps11
  go_wp2
  all_goals first
    | omega
    | (refine bodyPost_ret (v := .tuple #[.agg #[.slice none 0 0, .slice none 0 0], .int .i64 2]) ?_ rfl ⟨rfl, by go_grown⟩
       simp [results, Try.results11, go_sem])
end Go.Proofs.Ytipppemkcbgecaa
