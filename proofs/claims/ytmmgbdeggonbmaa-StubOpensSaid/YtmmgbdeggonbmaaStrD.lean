/- Contracts of stub.Open and the reference's OpenedOf under one statement. -/
import Derived.Test.YtmmgbdeggonbmaaStrC
open Go Go.RowKit
namespace Go.Proofs.Ytmmgbdeggonbmaa
theorem open_any (p : ByteArray) (w : World) (hs : p.size ≤ 9223372036854775807) :
    Calls Try.prog 10 #[.string p] w fun e w' => e = .returned (.tuple #[.string (openV p), .int .i64 (openE p)]) ∧ Below w.heap.size w w' := by
  by_cases h : 200 < p.size
  · rw [(open1 h).1, (open1 h).2]; exact open_long p w hs h
  by_cases h4 : 4 ≤ p.size
  · by_cases h0 : ((p[0]'(by omega)).toNat : Int) = 36
    · by_cases h3 : ((p[p.size - 3]'(by omega)).toNat : Int) = 35
      · have hz : (inner p).size ≤ 200 := by rw [inner_size]; omega
        cases hm : marked (inner p).data.toList
        · have hf := formed_mk h4 h0 h3 hm
          cases hsm : summed p
          · rw [(open3 h hf hsm).1, (open3 h hf hsm).2]; exact open_sum p (inner p) w h4 (by omega) h0 h3 rfl hz hm hsm
          · rw [(open4 h hf hsm).1, (open4 h hf hsm).2]; exact open_good p (inner p) w h4 (by omega) h0 h3 rfl hz hm hsm
        · rw [(open2 h (formed_m hm)).1, (open2 h (formed_m hm)).2]; exact open_mark p (inner p) w h4 (by omega) h0 h3 rfl hz hm
      · rw [(open2 h (formed_3 h4 h3)).1, (open2 h (formed_3 h4 h3)).2]; exact open_three p w h4 (by omega) h0 h3
    · rw [(open2 h (formed_0 h4 h0)).1, (open2 h (formed_0 h4 h0)).2]; exact open_zero p w h4 (by omega) h0
  · rw [(open2 h (formed_short h4)).1, (open2 h (formed_short h4)).2]; exact open_short p w h4
theorem opened_any (p : ByteArray) (w : World) (hs : p.size ≤ 9223372036854775807) :
    Calls Try.prog 11 #[.string p] w fun e w' => e = .returned (.tuple #[.string (openV p), .int .i64 (openE p)]) ∧ Below w.heap.size w w' := by
  by_cases h : 200 < p.size
  · rw [(open1 h).1, (open1 h).2]; exact opened_long p w hs h
  by_cases h4 : 4 ≤ p.size
  · by_cases h0 : ((p[0]'(by omega)).toNat : Int) = 36
    · by_cases h3 : ((p[p.size - 3]'(by omega)).toNat : Int) = 35
      · have hz : (inner p).size ≤ 200 := by rw [inner_size]; omega
        cases hm : marked (inner p).data.toList
        · have hf := formed_mk h4 h0 h3 hm
          cases hsm : summed p
          · rw [(open3 h hf hsm).1, (open3 h hf hsm).2]; exact opened_sum p (inner p) w h4 (by omega) h0 h3 rfl hz hm hsm
          · rw [(open4 h hf hsm).1, (open4 h hf hsm).2]; exact opened_good p (inner p) w h4 (by omega) h0 h3 rfl hz hm hsm
        · rw [(open2 h (formed_m hm)).1, (open2 h (formed_m hm)).2]; exact opened_mark p (inner p) w h4 (by omega) h0 h3 rfl hz hm
      · rw [(open2 h (formed_3 h4 h3)).1, (open2 h (formed_3 h4 h3)).2]; exact opened_three p w h4 (by omega) h0 h3
    · rw [(open2 h (formed_0 h4 h0)).1, (open2 h (formed_0 h4 h0)).2]; exact opened_zero p w h4 (by omega) h0
  · rw [(open2 h (formed_short h4)).1, (open2 h (formed_short h4)).2]; exact opened_short p w h4
end Go.Proofs.Ytmmgbdeggonbmaa
