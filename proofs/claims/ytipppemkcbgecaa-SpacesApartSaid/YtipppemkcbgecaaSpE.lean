/- (*Space).Store. -/
import Derived.Test.YtipppemkcbgecaaSpD
import Derived.Deep.RegionHeld3
open Go Go.RowKit
namespace Go.Proofs.Ytipppemkcbgecaa
theorem RdFr.form {p : Nat → Prop} {w : World} {d r : Value} {f : Fr} (h : RdFr p w (.agg #[d, r]) f) : ∃ A n c B m k, d = .slice A n c ∧ r = .slice B m k := by
  obtain ⟨bd, od, cd, br, or_, cr, rows, e, _⟩ := h
  injection e with e
  have e2 := congrArg (fun a => a[0]?) e
  have e3 := congrArg (fun a => a[1]?) e
  simp at e2 e3
  exact ⟨_, _, _, _, _, _, e2, e3⟩
theorem frTake (p : Nat → Prop) (v : Value) (f : Fr) (w : World) (h : RdFr p w v f) (hok : f.Ok) :
    Calls Try.prog 19 #[v] w fun e w' =>
      (f.free = none ∧ e = .returned (.tuple #[.agg #[.slice none 0 0, .slice none 0 0], .int .i64 0, .int .i64 7]) ∧ Below w.heap.size w w') ∨
      (∃ d r i, f.free = some i ∧ e = .returned (.tuple #[.agg #[d, r], .int .i64 (i : Nat), .int .i64 0]) ∧ RdFr (fun b => w.heap.size ≤ b) w' (.agg #[d, r]) (f.take i) ∧ Below w.heap.size w w') := by
  cases hf : f.free with
  | none =>
    refine (frTake_none p v f w h hok (Fr.free_none hf)).mono ?_
    rintro e w' ⟨rfl, hb⟩
    exact .inl ⟨rfl, rfl, hb⟩
  | some i =>
    obtain ⟨h1, h2, h3⟩ := Fr.free_some hf
    refine (frTake_some p v f w i h hok h1 h2 (hok.free i h2 h3)).mono ?_
    rintro e w' ⟨v', rfl, hr, hb⟩
    obtain ⟨bd, od, cd, br, or_, cr, rows, rfl, _⟩ := id hr
    exact .inr ⟨_, _, i, rfl, rfl, hr, hb⟩
def WRes (f1 : Fr) (n k : Nat) (x : Int) (lo : Nat) (w : World) (v : Value) (nn ee : Int) : Prop :=
  (f1.write n k x = none ∧ ee = 7) ∨ (∃ f2 n2, f1.write n k x = some (f2, n2) ∧ nn = (n2 : Nat) ∧ ee = 0 ∧ RdFr (fun b => lo ≤ b) w v f2)
theorem WRes.upd {f1 : Fr} {n k : Nat} {x : Int} {lo lo' : Nat} {w w' : World} {v : Value} {nn ee : Int} (h : WRes f1 n k x lo w v nn ee) {S : Nat → Prop} (hu : Upd S w w') (hS : ∀ b, lo ≤ b → ¬ S b) (hl : lo' ≤ lo) : WRes f1 n k x lo' w' v nn ee := by
  rcases h with h | ⟨f2, n2, h1, h2, h3, h4⟩
  · exact .inl h
  · exact .inr ⟨f2, n2, h1, h2, h3, (h4.upd hu hS).mono (fun b hb => Nat.le_trans hl hb)⟩
theorem put_page {M : Nat → Prop} {w w1 : World} {s h q : Nat} {d r d1 r1 : Value} {f f' : Fr} {pg : List Int} {fl : Int} (KH : Ho M w h d r f) (KS : Sp w s h pg fl) (hM : ∀ b, M b → b < w.heap.size) (hs : M s) (hne : s ≠ h) (hq : q < 16)
    (hb : Below w.heap.size w w1) (hr : RdFr (fun b => w.heap.size ≤ b) w1 (.agg #[d1, r1]) f') (hok : f'.Ok) (i : Int) :
    Ho M (((w1.setCell ⟨h, 0, none⟩ d1).setCell ⟨h, 1, none⟩ r1).setCell ⟨s, 1 + q, none⟩ (.int .i64 i)) h d1 r1 f' ∧
    Sp (((w1.setCell ⟨h, 0, none⟩ d1).setCell ⟨h, 1, none⟩ r1).setCell ⟨s, 1 + q, none⟩ (.int .i64 i)) s h (pg.set q i) fl ∧
    Upd (fun b => b = s ∨ b = h) w (((w1.setCell ⟨h, 0, none⟩ d1).setCell ⟨h, 1, none⟩ r1).setCell ⟨s, 1 + q, none⟩ (.int .i64 i)) := by
  refine ⟨(KH.put hM hb hr hok).upd (S := fun b => b = s) (Upd.setCell (S := fun b => b = s) rfl _) (Ne.symm hne) (fun b hb _ => hb ▸ hs), (((KS.below hb).other hne _).other hne _).setPage q hq i, ?_⟩
  exact (((Upd.of_below hb).trans (Upd.setCell (S := fun b => b = s ∨ b = h) (.inr rfl) _)).trans (Upd.setCell (S := fun b => b = s ∨ b = h) (.inr rfl) _)).trans (Upd.setCell (S := fun b => b = s ∨ b = h) (.inl rfl) _)
theorem Ho.quiet {M : Nat → Prop} {w : World} {h : Nat} {d r : Value} {f : Fr} (H : Ho M w h d r f) (o : Obj) : Ho M (w.alloc o).drew h d r f := (H.upd (Upd.alloc (fun _ => False) w o) (fun x => x) (fun _ x => x.elim)).upd (Upd.drew (fun _ => False) _) (fun x => x) (fun _ x => x.elim)
theorem Sp.quiet {w : World} {s h : Nat} {pg : List Int} {fl : Int} (H : Sp w s h pg fl) (o : Obj) : Sp (w.alloc o).drew s h pg fl := (H.upd (Upd.alloc (fun _ => False) w o) (fun x => x)).upd (Upd.drew (fun _ => False) _) (fun x => x)
theorem Upd.quiet {S : Nat → Prop} {w w' : World} (H : Upd S w w') (o : Obj) : Upd S w (w'.alloc o).drew := (H.trans (Upd.alloc _ _ o)).trans (Upd.drew _ _)
set_option maxRecDepth 100000
set_option maxHeartbeats 400000 in
theorem spStore_bad (w : World) (v : Value) (a x : Int) (ha : a < 0 ∨ 256 ≤ a) :
    Calls Try.prog 13 #[v, .int .i64 a, .int .i64 x] w fun e w' => e = .returned (.bool false) ∧ w' = w := by
  go_enter Try.func13, Try.ntmps13
  go_upto_region 3 with fail
  all_goals first
    | omega
    | (go_ret; exact ⟨rfl, rfl⟩)
    | trace_state
set_option maxHeartbeats 4000000 in
theorem spStore (M : Nat → Prop) (w : World) (s h : Nat) (d r : Value) (f : Fr) (pg : List Int) (fl : Int) (a : Nat) (x : Int) (HH : Ho M w h d r f) (HS : Sp w s h pg fl) (hp : PgOk f pg) (hM : ∀ b, M b → b < w.heap.size) (hs : M s) (hne : s ≠ h) (ha : a < 256) :
    Calls Try.prog 13 #[.pointer (some ⟨s, 0, none⟩), .int .i64 a, .int .i64 x] w fun e w' => Upd (fun b => b = s ∨ b = h) w w' ∧
      ((f.store pg a x = none ∧ e = .returned (.bool false) ∧ ∃ pg', Sp w' s h pg' 7) ∨
       (∃ f' pg' d' r', f.store pg a x = some (f', pg') ∧ e = .returned (.bool true) ∧ Ho M w' h d' r' f' ∧ Sp w' s h pg' fl)) := by
  have hpage := HS.page (a / 16) (by omega)
  have hq : (a : Int) / 16 = ((a / 16 : Nat) : Int) := by omega
  have hr : (a : Int) % 16 = ((a % 16 : Nat) : Int) := by omega
  have hpl : a / 16 < 16 := by omega
  have hkl : a % 16 < 16 := by omega
  have HST : ∀ q k, a / 16 = q → a % 16 = k → f.store pg a x = (match f.grab pg q with
      | none => none
      | some (f1, pg1) => match f1.write (pg1.getD q 0).toNat k x with
        | none => none
        | some (f2, n) => some (f2, pg1.set q n)) := fun q k h1 h2 => by subst h1; subst h2; rfl
  obtain ⟨q, hq'⟩ : ∃ q, a / 16 = q := ⟨_, rfl⟩
  obtain ⟨k, hk'⟩ : ∃ k, a % 16 = k := ⟨_, rfl⟩
  have KST := Lib.hid (HST q k hq' hk')
  rw [hq'] at hpage hq hpl
  rw [hk'] at hr hkl
  obtain ⟨y, hy⟩ : ∃ y, pg.getD q 0 = y := ⟨_, rfl⟩
  rw [hy] at hpage
  have hhost := HS.host
  have c0 := HH.c0
  have c1 := HH.c1
  have hfl := HS.fault
  have z1 : s < w.heap.size := HS.lt
  have z2 : h < w.heap.size := HH.blk.lt
  have g1 : ∀ i, w.frozen? ⟨s, i, none⟩ = false := fun i => HS.blk.frozen i
  have g2 : ∀ i, w.frozen? ⟨h, i, none⟩ = false := fun i => HH.blk.frozen i
  have HY := Lib.hid hy
  have HP := Lib.hid hp
  have KH := Lib.hid HH
  have KS := Lib.hid HS
  have KM := Lib.hid hM
  have hne' : h ≠ s := Ne.symm hne
  clear HST hq' hk' hy hp HH HS hM
  go_enter Try.func13, Try.ntmps13
  go_upto_if 28 with fail
  go_cut [] (fun wc => ∃ f1 pg1 d1 r1, f.grab pg q = some (f1, pg1) ∧ Ho M wc h d1 r1 f1 ∧ Sp wc s h pg1 fl ∧ Upd (fun b => b = s ∨ b = h) w wc)
  case first =>
    by_cases hy0 : y < 0
    · have hyd : decide (y < 0) = true := decide_eq_true hy0
      cases hfr : f.free with
      | none =>
        have KTK : Hid (Calls Try.prog 19 #[.agg #[d, r]] w fun e w' => e = .returned (.tuple #[.agg #[.slice none 0 0, .slice none 0 0], .int .i64 0, .int .i64 7]) ∧ Below w.heap.size w w') := Lib.hid ((frTake _ _ f w KH.out.reads KH.out.ok).mono (by
          rintro e w' (⟨_, h1, h2⟩ | ⟨_, _, i, h1, _⟩)
          · exact ⟨h1, h2⟩
          · rw [hfr] at h1; cases h1))
        have HG : Hid (f.store pg a x = none) := Lib.hid (by rw [KST.out]; simp only [Fr.grab]; rw [if_pos (by rw [HY.out]; exact hy0), hfr])
        clear hfr
        go_wp2_with (
          go_at_call 19
          refine KTK.out.mono ?_
          rintro e w1 ⟨rfl, hb1⟩
          have hfl1 := (KS.out.below hb1).fault
          have q1 : ∀ i, w1.frozen? ⟨s, i, none⟩ = false := fun i => (KS.out.below hb1).blk.frozen i
          have z3 : s < w1.heap.size := (KS.out.below hb1).lt)
        go_ret
        exact ⟨(((Upd.of_below hb1).trans (Upd.setCell (S := fun b => b = s ∨ b = h) (.inl rfl) _)).trans (Upd.alloc _ _ _)), .inl ⟨HG.out, rfl, pg, (((KS.out.below hb1).setFault 7).upd (Upd.alloc (fun _ => False) _ _) (fun x => x))⟩⟩
      | some i =>
        have KTK : Hid (Calls Try.prog 19 #[.agg #[d, r]] w fun e w' => ∃ d1 r1, e = .returned (.tuple #[.agg #[d1, r1], .int .i64 (i : Nat), .int .i64 0]) ∧ RdFr (fun b => w.heap.size ≤ b) w' (.agg #[d1, r1]) (f.take i) ∧ Below w.heap.size w w') := Lib.hid ((frTake _ _ f w KH.out.reads KH.out.ok).mono (by
          rintro e w' (⟨h1, _⟩ | ⟨d1, r1, i', h1, h2, h3, h4⟩)
          · rw [hfr] at h1; cases h1
          · rw [hfr] at h1; cases h1; exact ⟨d1, r1, h2, h3, h4⟩))
        have HG : Hid (f.grab pg q = some (f.take i, pg.set q i)) := Lib.hid (by simp only [Fr.grab]; rw [if_pos (by rw [HY.out]; exact hy0), hfr])
        clear hfr
        go_wp2_with (
          go_at_call 19
          refine KTK.out.mono ?_
          rintro e w1 ⟨d1, r1, rfl, hr1, hb1⟩
          obtain ⟨A, na, ca, B, nb, cb, rfl, rfl⟩ := hr1.form
          have hst1 := (KS.out.below hb1).host
          have hpg1 := (KS.out.below hb1).page q hpl
          have hh0 := (KH.out.below hb1).c0
          have hh1 := (KH.out.below hb1).c1
          have q1 : ∀ i, w1.frozen? ⟨s, i, none⟩ = false := fun i => (KS.out.below hb1).blk.frozen i
          have q2 : ∀ i, w1.frozen? ⟨h, i, none⟩ = false := fun i => (KH.out.below hb1).blk.frozen i
          have z3 : s < w1.heap.size := (KS.out.below hb1).lt
          have z4 : h < w1.heap.size := (KH.out.below hb1).blk.lt
          have HR1 := Lib.hid hr1
          clear hr1)
        go_region
        all_goals (go_wp2_with fail; go_meet)
        all_goals (
          obtain ⟨P1, P2, P3⟩ := put_page KH.out KS.out KM.out hs hne hpl hb1 HR1.out (KH.out.ok.take i) (i : Int)
          exact ⟨_, _, _, _, HG.out, P1.quiet _, P2.quiet _, P3.quiet _⟩)
    · have hyd : decide (y < 0) = false := decide_eq_false hy0
      have HG : Hid (f.grab pg q = some (f, pg)) := Lib.hid (by simp only [Fr.grab]; rw [if_neg (by rw [HY.out]; exact hy0)])
      go_wp2_with fail
      go_meet
      exact ⟨f, pg, d, r, HG.out, KH.out, KS.out, Upd.refl _ _⟩
  case rest =>
    obtain ⟨w0, hw0⟩ : ∃ W, W = wc := ⟨_, rfl⟩
    subst hw0
    obtain ⟨f1, pg1, d1, r1, hgr, HH1, HS1, hu1⟩ := hcut
    obtain ⟨hok1, hl1, hn0, hn1, hn2⟩ := Fr.grab_ok KH.out.ok HP.out KS.out.len hpl hgr
    obtain ⟨n, hn⟩ : ∃ n : Nat, pg1.getD q 0 = n := ⟨(pg1.getD q 0).toNat, by omega⟩
    have hn' : (pg1.getD q 0).toNat = n := by omega
    rw [hn'] at hn1 hn2
    have KS2 : Hid (f.store pg a x = (match f1.write n k x with | none => none | some (f2, n) => some (f2, pg1.set q n))) := Lib.hid (by rw [KST.out, hgr]; simp only [hn'])
    have hpage1 := HS1.page q hpl
    rw [hn] at hpage1
    have hhost1 := HS1.host
    have b0 := HH1.c0
    have b1 := HH1.c1
    have y1 : s < w0.heap.size := HS1.lt
    have y2 : h < w0.heap.size := HH1.blk.lt
    have x1 : s ≠ w0.heap.size := by omega
    have x2 : h ≠ w0.heap.size := by omega
    have x3 : w0.heap.size ≠ s := by omega
    have x4 : w0.heap.size ≠ h := by omega
    have HN1 := Lib.hid hn1
    have HN2 := Lib.hid hn2
    have HK1 := Lib.hid hok1
    have KH1 := Lib.hid HH1
    have KS1 := Lib.hid HS1
    have KU1 := Lib.hid hu1
    have KWR : Hid (∀ W, Below w0.heap.size w0 W → Calls Try.prog 20 #[.agg #[d1, r1], .int .i64 n, .int .i64 k, .int .i64 x] W fun e w' => ∃ A na ca B nb cb nn ee,
        e = .returned (.tuple #[.agg #[.slice A na ca, .slice B nb cb], .int .i64 nn, .int .i64 ee]) ∧ Below W.heap.size W w' ∧
          Hid (WRes f1 n k x W.heap.size w' (.agg #[.slice A na ca, .slice B nb cb]) nn ee)) := Lib.hid (fun W hW => (frWrite _ _ f1 W n k x (HH1.reads.below hW) hok1 hn1 hn2 hkl).mono (by
      rintro e w' (⟨h1, rfl, h2⟩ | ⟨d, r, f', n', h1, rfl, h2, h3⟩)
      · exact ⟨_, _, _, _, _, _, _, _, rfl, h2, Lib.hid (.inl ⟨h1, rfl⟩)⟩
      · obtain ⟨A, na, ca, B, nb, cb, rfl, rfl⟩ := h2.form
        exact ⟨_, _, _, _, _, _, _, _, rfl, h3, Lib.hid (.inr ⟨f', n', h1, rfl, rfl, h2⟩)⟩))
    clear hgr HH1 HS1 hu1 hn hn' hn0 hn1 hn2 hpage hhost c0 c1 hfl z1 z2 g1 g2
    have hq0 : (0 : Int) ≤ (q : Int) := Int.natCast_nonneg q
    have hq16 : (q : Int) < 16 := by omega
    have ht : (a : Int).tmod 16 = (k : Int) := by rw [Int.tmod_eq_emod_of_nonneg (by omega)]; exact hr
    go_upto_region 10 with fail
    go_cut [11, 12, 13] (fun u11 u12 u13 wx => ∃ q1 A na ca B nb cb nn ee, u11 = .pointer (some ⟨q1, 0, none⟩) ∧ u12 = .int .i64 nn ∧ u13 = .int .i64 ee ∧ Blk wx q1 40 #[.slice A na ca, .slice B nb cb] ∧ Below w0.heap.size w0 wx ∧
      Hid (WRes f1 n k x w0.heap.size wx (.agg #[.slice A na ca, .slice B nb cb]) nn ee))
    case first =>
      go_region_held3 (fun W => W.cell? ⟨s, 0, none⟩ = some (.pointer (some ⟨h, 0, none⟩)) ∧ W.cell? ⟨h, 0, none⟩ = some d1 ∧ W.cell? ⟨h, 1, none⟩ = some r1 ∧ W.cell? ⟨s, 1 + q, none⟩ = some (.int .i64 n)) (first | go_keep | exact ⟨k1, k2, k3, k4⟩)
        (first | (
          go_at_call 20
          refine Calls.mono (KWR.out _ (by go_grown)) ?_
          rintro e w6 ⟨A, na, ca, B, nb, cb, nn, ee, rfl, hb6, HR6⟩
          obtain ⟨hcl6, hfr6⟩ := bcell hb6
          have z6 := hb6.size
          have k1 : w6.cell? ⟨s, 0, none⟩ = some (.pointer (some ⟨h, 0, none⟩)) := (by rw [hcl6 _ _ (by simp; omega)]; simp [*])
          have k2 : w6.cell? ⟨h, 0, none⟩ = some d1 := (by rw [hcl6 _ _ (by simp; omega)]; simp [*])
          have k3 : w6.cell? ⟨h, 1, none⟩ = some r1 := (by rw [hcl6 _ _ (by simp; omega)]; simp [*])
          have k4 : w6.cell? ⟨s, 1 + q, none⟩ = some (.int .i64 n) := (by rw [hcl6 _ _ (by simp; omega)]; simp [*])))
      all_goals (go_wp2_with fail; go_meet)
      · exact ⟨_, _, _, _, _, _, _, _, _, rfl, rfl, rfl, Blk.at_alloc _ _ _, (below_drew' hb6).alloc hb6.size _, Lib.hid (HR6.out.upd (Upd.alloc (fun _ => False) _ _) (fun _ _ x => x) (Nat.le_refl _))⟩
      all_goals exact ⟨_, _, _, _, _, _, _, _, _, rfl, rfl, rfl, by simpa using (((Blk.at_alloc w0 40 #[.slice none 0 0, .slice none 0 0]).drew.below hb6).set 0 (.slice A na ca)).set 1 (.slice B nb cb), ((below_up' (by go_grown) hb6).setCell (by simp) _).setCell (by simp) _,
        Lib.hid (HR6.out.upd ((Upd.setCell (S := fun b => b = w0.heap.size) rfl _).trans (Upd.setCell (S := fun b => b = w0.heap.size) rfl _)) (fun b hb e => by simp at hb; omega) (by simp))⟩
    case rest =>
      obtain ⟨q1, A, na, ca, B, nb, cb, nn, ee, rfl, rfl, rfl, KB, hbx, HRX⟩ := hcut
      have hst1 := (KS1.out.below hbx).host
      have hpg1 := (KS1.out.below hbx).page q hpl
      have hfl1 := (KS1.out.below hbx).fault
      have hh0 := (KH1.out.below hbx).c0
      have hh1 := (KH1.out.below hbx).c1
      have k0 := KB.cell 0
      have k1 := KB.cell 1
      simp at k0 k1
      have q2 : ∀ i, wc.frozen? ⟨s, i, none⟩ = false := fun i => (KS1.out.below hbx).blk.frozen i
      have q3 : ∀ i, wc.frozen? ⟨h, i, none⟩ = false := fun i => (KH1.out.below hbx).blk.frozen i
      have z3 : s < wc.heap.size := (KS1.out.below hbx).lt
      have z4 : h < wc.heap.size := (KH1.out.below hbx).blk.lt
      have HM0 : Hid (∀ b, M b → b < w0.heap.size) := Lib.hid (fun b hb => Nat.lt_of_lt_of_le (KM.out b hb) KU1.out.size)
      clear hpage1 hhost1 b0 b1 y1 y2 x1 x2 x3 x4 KB KWR
      rcases HRX.out with ⟨hw, rfl⟩ | ⟨f2, n2, hw, rfl, rfl, hr2⟩
      · have HG : Hid (f.store pg a x = none) := Lib.hid (by rw [KS2.out, hw])
        clear hw
        go_wp2_with fail
        go_ret
        exact ⟨(KU1.out.trans (Upd.of_below hbx)).trans (Upd.setCell (S := fun b => b = s ∨ b = h) (.inl rfl) _), .inl ⟨HG.out, rfl, _, (KS1.out.below hbx).setFault 7⟩⟩
      · have HG : Hid (f.store pg a x = some (f2, pg1.set q n2)) := Lib.hid (by rw [KS2.out, hw])
        have HO2 : Hid f2.Ok := Lib.hid (Fr.Ok.write HK1.out n k x HN1.out HN2.out hw)
        have HR2 := Lib.hid hr2
        clear hw hr2
        go_wp2_with fail
        go_region
        go_wp2
        go_ret
        obtain ⟨P1, P2, P3⟩ := put_page KH1.out KS1.out HM0.out hs hne hpl hbx HR2.out HO2.out (n2 : Int)
        exact ⟨(KU1.out.trans P3).trans (Upd.drew _ _), .inr ⟨f2, _, _, _, HG.out, rfl, P1.upd (Upd.drew (fun _ => False) _) (fun x => x) (fun _ x => x.elim), P2.upd (Upd.drew (fun _ => False) _) (fun x => x)⟩⟩
end Go.Proofs.Ytipppemkcbgecaa
