/- Frames that read as data, and frames.Check of frames that may be. -/
import Derived.Test.YtipppemkcbgecaaFrA
open Go Go.RowKit
namespace Go.Proofs.Ytipppemkcbgecaa
structure Fr where
  data : List (List Int)
  refs : List Int
/-- Frames that may be. -/
structure Fr.Ok (f : Fr) : Prop where
  len : f.data.length = f.refs.length
  most : f.refs.length ≤ 200
  refs : ∀ i, i < f.refs.length → 0 ≤ f.refs.getD i 0 ∧ f.refs.getD i 0 ≤ 200
  free : ∀ i, i < f.refs.length → f.refs.getD i 0 = 0 → (f.data.getD i []).length = 0
  known : ∀ i, i < f.refs.length → f.refs.getD i 0 ≠ 0 → (f.data.getD i []).length = 16
/-- Rows of a list of slices. -/
def RdRows (p : Nat → Prop) (w : World) (rows : List Value) (d : List (List Int)) : Prop :=
  rows.length = d.length ∧ ∀ i, i < d.length → RdI p w (rows.getD i undef) (d.getD i [])
theorem RdRows.mono {p q : Nat → Prop} {w : World} {rows : List Value} {d : List (List Int)} (h : RdRows p w rows d) (hpq : ∀ b, p b → q b) : RdRows q w rows d := ⟨h.1, fun i hi => (h.2 i hi).mono hpq⟩
theorem RdRows.below {p : Nat → Prop} {w w' : World} {rows : List Value} {d : List (List Int)} (h : RdRows p w rows d) (hb : Below w.heap.size w w') : RdRows p w' rows d := ⟨h.1, fun i hi => (h.2 i hi).below hb⟩
theorem RdRows.upd {S p : Nat → Prop} {w w' : World} {rows : List Value} {d : List (List Int)} (h : RdRows p w rows d) (hu : Upd S w w') (hS : ∀ b, p b → ¬ S b) : RdRows p w' rows d := ⟨h.1, fun i hi => (h.2 i hi).upd hu hS⟩
/-- Frames. -/
def RdFr (p : Nat → Prop) (w : World) (v : Value) (f : Fr) : Prop :=
  ∃ bd od cd br or_ cr rows, v = .agg #[.slice (some ⟨bd, od, none⟩) f.data.length cd, .slice (some ⟨br, or_, none⟩) f.refs.length cr] ∧
    RdK p w 1 (.slice (some ⟨bd, od, none⟩) f.data.length cd) f.data.length rows ∧ RdI p w (.slice (some ⟨br, or_, none⟩) f.refs.length cr) f.refs ∧ RdRows p w rows f.data
theorem RdFr.mono {p q : Nat → Prop} {w : World} {v : Value} {f : Fr} (h : RdFr p w v f) (hpq : ∀ b, p b → q b) : RdFr q w v f := by
  obtain ⟨bd, od, cd, br, or_, cr, rows, h1, h2, h3, h4⟩ := h
  exact ⟨bd, od, cd, br, or_, cr, rows, h1, h2.mono hpq, h3.mono hpq, h4.mono hpq⟩
theorem RdFr.below {p : Nat → Prop} {w w' : World} {v : Value} {f : Fr} (h : RdFr p w v f) (hb : Below w.heap.size w w') : RdFr p w' v f := by
  obtain ⟨bd, od, cd, br, or_, cr, rows, h1, h2, h3, h4⟩ := h
  exact ⟨bd, od, cd, br, or_, cr, rows, h1, h2.below (by decide) hb, h3.below hb, h4.below hb⟩
theorem RdFr.upd {S p : Nat → Prop} {w w' : World} {v : Value} {f : Fr} (h : RdFr p w v f) (hu : Upd S w w') (hS : ∀ b, p b → ¬ S b) : RdFr p w' v f := by
  obtain ⟨bd, od, cd, br, or_, cr, rows, h1, h2, h3, h4⟩ := h
  exact ⟨bd, od, cd, br, or_, cr, rows, h1, h2.upd (by decide) hu hS, h3.upd hu hS, h4.upd hu hS⟩
theorem getD_some {α : Type} (l : List α) (i : Nat) (d : α) (h : i < l.length) : l[i]? = some (l.getD i d) := by
  simp [List.getElem?_eq_getElem h, List.getD_eq_getElem?_getD]
set_option maxRecDepth 100000
set_option maxHeartbeats 1000000 in
/-- frames.Check of frames that may be: OK. -/
theorem frCheck_ok (p : Nat → Prop) (v : Value) (f : Fr) (w : World) (h : RdFr p w v f) (hok : f.Ok) :
    Calls Try.prog 23 #[v] w fun e w' => e = .returned (.int .i64 0) ∧ Below w.heap.size w w' := by
  obtain ⟨bd, od, cd, br, or_, cr, rows, rfl, hd, hr, hrows⟩ := h
  obtain ⟨n, hn⟩ : ∃ n, f.refs.length = n := ⟨_, rfl⟩
  have hnd : f.data.length = n := hok.len.trans hn
  have hm : n ≤ 200 := by rw [← hn]; exact hok.most
  rw [hn, hnd]
  have HN := Lib.hid hn
  have HND := Lib.hid hnd
  have HR := Lib.hid hr
  have HD := Lib.hid hd
  have HO := Lib.hid hok
  have HW := Lib.hid hrows
  clear hn hnd hr hd hok hrows
  have HB : Hid (Below w.heap.size w (w.alloc (.cells #[.slice (some ⟨bd, od, none⟩) n cd, .slice (some ⟨br, or_, none⟩) n cr] 40))) := (Below.refl _ _).alloc (Nat.le_refl _) _
  go_enter Try.func23, Try.ntmps23
  go_wp2
  go_loop [21] (fun i => ∃ k : Nat, k ≤ n ∧ i = .int .i64 k) (fun i => n - (intOf i).toNat)
  case atStart => exact ⟨0, Nat.zero_le _, rfl⟩
  case round =>
    obtain ⟨k, hk, rfl⟩ := hrel
    by_cases hlt : k < n
    · obtain ⟨b1, o1, c1, e1, hc1, hm1, hp1, hcell⟩ := HR.out.at_ (by rw [HN.out]; omega)
      have hx := hcell k (by rw [HN.out]; exact hlt)
      obtain ⟨y, hy⟩ : ∃ y, f.refs.getD k 0 = y := ⟨_, rfl⟩
      have hyb := HO.out.refs k (by rw [HN.out]; exact hlt)
      have hy0 := HO.out.free k (by rw [HN.out]; exact hlt)
      have hy1 := HO.out.known k (by rw [HN.out]; exact hlt)
      obtain ⟨b2, o2, c2, e2, hc2, hm2, hp2, hcell2⟩ := HD.out.at_ (by rw [HND.out]; omega)
      have hrk := HW.out.2 k (by rw [HND.out]; exact hlt)
      obtain ⟨A, c, hrow, hcc, _⟩ := hrk.form
      have hx2 := hcell2 k _ (getD_some rows k undef (by rw [HW.out.1, HND.out]; exact hlt))
      rw [hrow] at hx2
      rw [hy] at hx hyb hy0 hy1
      cases e1
      cases e2
      clear hcell hcell2 hrk hrow hc1 hc2 hcc hy
      obtain ⟨m, hmm⟩ : ∃ m, (f.data.getD k []).length = m := ⟨_, rfl⟩
      rw [hmm] at hx2 hy0 hy1
      clear hmm
      have hcl := (bcell HB.out).1
      have hb1 := World.block_lt_of_cell? w _ hx
      have hb2 := World.block_lt_of_cell? w _ hx2
      by_cases hz : y = 0
      · have hm0 := hy0 hz
        subst hz
        subst hm0
        clear hy0 hy1
        go_wp2
        go_round
        case rel => exact ⟨k + 1, by omega, by go_num⟩
        case measure => simp [intOf]; omega
      · have hm16 := hy1 hz
        subst hm16
        have hyp : 0 < y := by omega
        have hyz : (y == 0) = false := beq_eq_false_iff_ne.2 hz
        have hyd : decide (0 < y) = true := decide_eq_true hyp
        clear hy0 hy1 hz
        go_wp2
        go_round
        case rel => exact ⟨k + 1, by omega, by go_num⟩
        case measure => simp [intOf]; omega
    · go_wp2
      go_ret
      exact ⟨rfl, HB.out⟩
end Go.Proofs.Ytipppemkcbgecaa
