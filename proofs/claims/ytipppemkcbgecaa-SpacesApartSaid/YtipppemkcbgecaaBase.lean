/- Small lemmas that all texts of this seat share: bits of int, bytes of strings, worlds that have grown. -/
import Derived.Test.YtipppemkcbgecaaProg
import Derived.WalkKit
import Derived.WalkLawsBesides
import Derived.WalkSpells
import Derived.Deep.QuietTactic
import Derived.Deep.RegionWith
import Derived.Deep.RegionHeld3
import Derived.Deep.LoopGhost
import Derived.Deep.DeepCutAuto
import Derived.BigQuiet
import Derived.Handy
import Derived.Lib.Hide
import Derived.Lib.Bytealg
import Derived.Lib.Slices
open Go Go.RowKit
namespace Go.Proofs.Ytipppemkcbgecaa

theorem wraps_i64 (n : Int) (h0 : 0 ≤ n) (h1 : n < 2 ^ 63) : IntKind.i64.wrap n = n := by rw [IntKind.wrap_i64]; omega
theorem i64_mask (i : Nat) (hi : i ≤ 63) (n : Int) (h0 : 0 ≤ n) (h1 : n < 2 ^ 63) : bits .and .i64 n (2 ^ i - 1) = n % 2 ^ i :=
  bits_mask .i64 63 (by decide) wraps_i64 i hi n h0 h1
theorem i64_and15 (n : Int) (h0 : 0 ≤ n) (h1 : n < 9223372036854775808) : bits .and .i64 n 15 = n % 16 := i64_mask 4 (by decide) n h0 h1
theorem i64_and7 (n : Int) (h0 : 0 ≤ n) (h1 : n < 9223372036854775808) : bits .and .i64 n 7 = n % 8 := i64_mask 3 (by decide) n h0 h1
theorem i64_and127 (n : Int) (h0 : 0 ≤ n) (h1 : n < 9223372036854775808) : bits .and .i64 n 127 = n % 128 := i64_mask 7 (by decide) n h0 h1
theorem i64_and1 (n : Int) (h0 : 0 ≤ n) (h1 : n < 9223372036854775808) : bits .and .i64 n 1 = n % 2 := i64_mask 1 (by decide) n h0 h1

/-- Old cells and old marks read as before in a world that has grown. -/
theorem bcell {W w1 : World} (hb : Below W.heap.size W w1) : (∀ b o, b < W.heap.size → w1.cell? ⟨b, o, none⟩ = W.cell? ⟨b, o, none⟩) ∧ (∀ b o, b < W.heap.size → w1.frozen? ⟨b, o, none⟩ = W.frozen? ⟨b, o, none⟩) :=
  ⟨fun b o h => hb.cell (p := ⟨b, o, none⟩) h, fun b o h => hb.frozen (p := ⟨b, o, none⟩) h⟩
theorem below_up {B : Nat} {a b c : World} (h : Below B a b) (hB : B ≤ b.heap.size) (k : Below b.heap.size b c) : Below B a c := h.trans (k.mono hB)
theorem below_up' {a b c : World} (h : Below a.heap.size a b) (k : Below b.heap.size b c) : Below a.heap.size a c := h.trans (k.mono h.size)

theorem below_drewN (B : Nat) (w : World) (n : Nat) : Below B w (w.drewN n) := ⟨rfl, rfl, rfl, Nat.le_refl _, fun _ _ => rfl⟩
theorem below_drew' {a b : World} (h : Below a.drew.heap.size a.drew b) : Below a.heap.size a b := ⟨h.os, h.tape, h.output, h.size, h.block⟩
/-- Behind a quiet region: the world under a new name. -/
theorem quiet_name (w : World) (n : Nat) : ∃ w1, w1 = w.drewN n ∧ Below w.heap.size w w1 ∧ w1.heap = w.heap := ⟨_, rfl, below_drewN _ _ _, rfl⟩

/-- One more byte of a string. -/
theorem take_snoc (s : ByteArray) (k : Nat) (h : k < s.size) : s.data.toList.take (k + 1) = s.data.toList.take k ++ [s[k]] := by
  rw [List.take_succ_eq_append_getElem (by simpa using h)]; rfl
theorem data_len (s : ByteArray) : s.data.toList.length = s.size := by rw [Array.length_toList]; rfl
theorem take_all (s : ByteArray) (k : Nat) (h : s.size ≤ k) : s.data.toList.take k = s.data.toList := List.take_of_length_le (by rw [data_len]; exact h)

/-- The sum of bytes. -/
def bsum (l : List UInt8) : Nat := (l.map (·.toNat)).sum
theorem bsum_nil : bsum [] = 0 := rfl
theorem bsum_snoc (l : List UInt8) (c : UInt8) : bsum (l ++ [c]) = bsum l + c.toNat := by simp [bsum]
theorem bsum_le (l : List UInt8) : bsum l ≤ 255 * l.length := by
  induction l with
  | nil => simp [bsum]
  | cons c l ih => have := c.toNat_lt; simp only [bsum, List.map_cons, List.sum_cons, List.length_cons] at *; omega
/-- A digit to the base 16. -/
def dg (n : Nat) : UInt8 := if n < 10 then UInt8.ofNat (48 + n) else UInt8.ofNat (87 + n)
/-- Two digits of the last eight bits. -/
def two (n : Nat) : ByteArray := ⟨#[dg (n / 16 % 16), dg (n % 16)]⟩
theorem two_size (n : Nat) : (two n).size = 2 := rfl
/-- Is a byte a mark: '$', '#'? -/
def isMark (c : UInt8) : Bool := c == 36 || c == 35
def marked (l : List UInt8) : Bool := l.any isMark

/-- 'string([]byte{x, y})'. -/
theorem run_two_string {P : Program} (src e dst : TypeId) (hs : P.underlying src = some (.slice e)) (he : P.underlying e = some (.int .u8)) (hd : P.underlying dst = some .string) (x y : UInt8) (w : World) :
    (convert src dst (.slice (some ⟨w.heap.size, 0, none⟩) 2 2)).run P ((w.alloc (.cells #[.int .u8 x.toNat, .int .u8 y.toNat] e)).drew) = .ok (.string ⟨#[x, y]⟩) ((w.alloc (.cells #[.int .u8 x.toNat, .int .u8 y.toNat] e)).drew) := by
  have h := run_convert_bytes_arg (P := P) ((w.alloc (.cells #[.int .u8 x.toNat, .int .u8 y.toNat] e)).drew) src e hs he w.heap.size 0 2 2 [(x.toNat : Int), (y.toNat : Int)] rfl (fun i hi => by
    have hi' : i = 0 ∨ i = 1 := by omega
    rcases hi' with rfl | rfl <;> simp [World.cell?_alloc_at]) dst hd
  rw [h]
  simp [strOfNums]
theorem run_two_string' {P : Program} (src e dst : TypeId) (hs : P.underlying src = some (.slice e)) (he : P.underlying e = some (.int .u8)) (hd : P.underlying dst = some .string) (x y : UInt8) (w : World) :
    (convert src dst (.slice (some ⟨w.heap.size, 0, none⟩) 2 2)).run P (w.alloc (.cells #[.int .u8 x.toNat, .int .u8 y.toNat] e)) = .ok (.string ⟨#[x, y]⟩) (w.alloc (.cells #[.int .u8 x.toNat, .int .u8 y.toNat] e)) := by
  have h := run_convert_bytes_arg (P := P) (w.alloc (.cells #[.int .u8 x.toNat, .int .u8 y.toNat] e)) src e hs he w.heap.size 0 2 2 [(x.toNat : Int), (y.toNat : Int)] rfl (fun i hi => by
    have hi' : i = 0 ∨ i = 1 := by omega
    rcases hi' with rfl | rfl <;> simp [World.cell?_alloc_at]) dst hd
  rw [h]
  simp [strOfNums]
end Go.Proofs.Ytipppemkcbgecaa
