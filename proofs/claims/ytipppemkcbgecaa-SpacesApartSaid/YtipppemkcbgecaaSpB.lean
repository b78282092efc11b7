/- (*Space).Load, Words, Store. -/
import Derived.Test.YtipppemkcbgecaaSpA
open Go Go.RowKit
namespace Go.Proofs.Ytipppemkcbgecaa
/-- What Load answers. -/
def Fr.word (f : Fr) (pg : List Int) (a : Nat) : Int := if pg.getD (a / 16) 0 < 0 then 0 else (f.data.getD (pg.getD (a / 16) 0).toNat []).getD (a % 16) 0
/-- Pages that are in frames that somebody knows. -/
def PgOk (f : Fr) (pg : List Int) : Prop := ∀ i, i < 16 → pg.getD i 0 = -1 ∨ (0 ≤ pg.getD i 0 ∧ (pg.getD i 0).toNat < f.refs.length ∧ f.refs.getD (pg.getD i 0).toNat 0 ≠ 0)
theorem Ho.word_at {M : Nat → Prop} {w : World} {h : Nat} {d r : Value} {f : Fr} (H : Ho M w h d r f) (n k : Nat) (hn : n < f.refs.length) (h0 : f.refs.getD n 0 ≠ 0) (hk : k < 16) :
    ∃ b o c g gu gc, d = .slice (some ⟨b, o, none⟩) f.data.length c ∧ f.data.length ≤ c ∧ w.cell? ⟨b, o + n, none⟩ = some (.slice (some ⟨g, gu, none⟩) 16 gc) ∧ w.cell? ⟨g, gu + k, none⟩ = some (.int .i64 ((f.data.getD n []).getD k 0)) := by
  obtain ⟨bd, od, cd, br, or_, cr, rows, e, hd, hr, hrows⟩ := H.reads
  injection e with e
  have e2 := congrArg (fun a => a[0]?) e
  simp at e2
  have hn' : n < f.data.length := by rw [H.ok.len]; exact hn
  have hrow := hrows.2 n hn'
  have h16 := H.ok.known n hn h0
  obtain ⟨g, u, c, hv, hc1, hc2, _, hcell⟩ := hrow.at_ (by omega)
  obtain ⟨b1, o1, c1, e3, h3, h4, _, hc⟩ := RdK.at_ hd (by omega)
  cases e3
  have hx := hc n _ (getD_some rows n undef (by rw [hrows.1]; exact hn'))
  rw [hv, h16] at hx
  exact ⟨bd, od, cd, g, u, c, e2, h3, hx, hcell k (by omega)⟩
set_option maxRecDepth 100000
set_option maxHeartbeats 1000000 in
theorem spLoad (M : Nat → Prop) (w : World) (s h : Nat) (d r : Value) (f : Fr) (pg : List Int) (fl : Int) (a : Nat) (HH : Ho M w h d r f) (HS : Sp w s h pg fl) (hp : PgOk f pg) (ha : a < 256) :
    Calls Try.prog 22 #[.pointer (some ⟨s, 0, none⟩), .int .i64 a] w fun e w' => e = .returned (.tuple #[.int .i64 (f.word pg a), .bool true]) ∧ w' = w := by
  have hpage := HS.page (a / 16) (by omega)
  have hhost := HS.host
  obtain ⟨y, hy⟩ : ∃ y, pg.getD (a / 16) 0 = y := ⟨_, rfl⟩
  rw [hy] at hpage
  have hq : (a : Int) / 16 = ((a / 16 : Nat) : Int) := by omega
  have hr : (a : Int) % 16 = ((a % 16 : Nat) : Int) := by omega
  rcases hp (a / 16) (by omega) with h1 | ⟨h1, h2, h3⟩
  · rw [hy] at h1
    subst h1
    have HW : Hid (f.word pg a = 0) := Lib.hid (by simp only [Fr.word, hy]; rfl)
    obtain ⟨q, hq'⟩ : ∃ q, a / 16 = q := ⟨_, rfl⟩
    rw [hq'] at hpage hq
    have hql : q < 16 := by omega
    clear hy hq'
    go_enter Try.func22, Try.ntmps22
    go_wp2
    refine bodyPost_ret (v := .tuple #[.int .i64 0, .bool true]) ?_ rfl ⟨by rw [HW.out], rfl⟩
    simp [results, Try.results22, go_sem]
  · have hok := HH.ok
    obtain ⟨b, o, c, g, gu, gc, e, hcap, hrcell, hcell⟩ := HH.word_at (pg.getD (a / 16) 0).toNat (a % 16) h2 h3 (by omega)
    subst e
    have c0 := HH.c0
    rw [hy] at h1 h2 h3 hcell hrcell
    have HW : Hid (f.word pg a = (f.data.getD y.toNat []).getD (a % 16) 0) := Lib.hid (by simp only [Fr.word, hy]; rw [if_neg (by omega)])
    obtain ⟨z, hz⟩ : ∃ z, (f.data.getD y.toNat []).getD (a % 16) 0 = z := ⟨_, rfl⟩
    rw [hz] at HW hcell
    have h2' : y.toNat < f.data.length := by rw [hok.len]; exact h2
    obtain ⟨n, hn⟩ : ∃ n, f.data.length = n := ⟨_, rfl⟩
    rw [hn] at h2' c0 hcap
    have hn2 : n ≤ 200 := by rw [← hn, hok.len]; exact hok.most
    obtain ⟨q, hq'⟩ : ∃ q, a / 16 = q := ⟨_, rfl⟩
    obtain ⟨k, hk'⟩ : ∃ k, a % 16 = k := ⟨_, rfl⟩
    rw [hq'] at hpage hq
    rw [hk'] at hr hcell
    have hql : q < 16 := by omega
    have hkl : k < 16 := by omega
    obtain ⟨m, rfl⟩ : ∃ m : Nat, y = m := ⟨y.toNat, by omega⟩
    have e1 : ((m : Int)).toNat = m := by omega
    rw [e1] at h2' hrcell
    clear hy hq' hk' hz h2 h3 h1 hn hok e1
    go_enter Try.func22, Try.ntmps22
    go_wp2
    refine bodyPost_ret (v := .tuple #[.int .i64 z, .bool true]) ?_ rfl ⟨by rw [HW.out], rfl⟩
    simp [results, Try.results22, go_sem]
end Go.Proofs.Ytipppemkcbgecaa
