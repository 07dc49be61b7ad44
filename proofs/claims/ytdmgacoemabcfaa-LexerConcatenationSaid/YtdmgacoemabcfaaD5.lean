/- LexerCovers: the law's walk. -/
import Derived.Test.YtdmgacoemabcfaaD4
namespace Go.Proofs.Ytdmgacoemabcfaa
open Go.RowKit

theorem Ints.later {w w2 : World} {A : Option Addr} {n : Nat} {zs : List Int} (h : Ints w w.heap.size A n zs) (hb : Below w.heap.size w w2) : Ints w2 w2.heap.size A n zs := by
  have h := h.below hb
  exact ⟨h.1, h.2.1, fun hp => by obtain ⟨b, off, e, hl, hc⟩ := h.2.2 hp; exact ⟨b, off, e, by have := hb.size; omega, hc⟩⟩

set_option maxRecDepth 100000 in
set_option maxHeartbeats 1000000 in
theorem covers_walk (A : Option Addr) (n cap : Nat) (zs : List Int) (s : ByteArray) (w : World) (hz : Ints w w.heap.size A n zs) (hn : n ≤ 9223372036854775807) (hs : s.size ≤ maxLen) :
    Calls Try.prog 6 #[.slice A n cap, .string s] w (Agreed w) := by
  have hf : (s.extract 0 (min 100 s.size)).size ≤ 100 := by simp; omega
  have HS := fun W => Lib.hid (short_any s hs 100 (by omega) W)
  generalize s.extract 0 (min 100 s.size) = few at *
  have HZ := Lib.hid hz
  clear hz
  go_enter Try.func6, Try.ntmps6
  go_wp2_with fail
  refine (clean_any A n cap zs w HZ.out hn).mono ?_
  rintro e w1 ⟨X, hX, rfl, hb1⟩
  have HB1 := Lib.hid hb1
  clear hb1
  go_wp2_with fail
  refine (covers_any X (by unfold maxLen; omega) w1).mono ?_
  rintro e w2 ⟨rfl, hb2⟩
  have HB2 := Lib.hid (HB1.out.trans (hb2.mono HB1.out.size))
  have HZ2 := Lib.hid (HZ.out.later HB2.out)
  clear hb2
  go_wp2_with fail
  refine (source_any A n cap zs w2 HZ2.out hn).mono ?_
  rintro e w3 ⟨Y, hY, rfl, hb3⟩
  have HB3 := Lib.hid (HB2.out.trans (hb3.mono HB2.out.size))
  clear hb3
  go_wp2_with fail
  refine (covers_any Y (by unfold maxLen; omega) w3).mono ?_
  rintro e w4 ⟨rfl, hb4⟩
  have HB4 := Lib.hid (HB3.out.trans (hb4.mono HB3.out.size))
  clear hb4
  go_wp2_with fail
  refine (HS w4).out.mono ?_
  rintro e w' ⟨rfl, rfl⟩
  go_wp2_with fail
  refine (covers_any few (by unfold maxLen; omega) w4).mono ?_
  rintro e w5 ⟨rfl, hb5⟩
  have HB5 := Lib.hid (HB4.out.trans (hb5.mono HB4.out.size))
  clear hb5
  go_wp2_with fail
  refine (lives_any w5).mono ?_
  rintro e w6 ⟨rfl, hb6⟩
  have HB6 := Lib.hid (HB5.out.trans (hb6.mono HB5.out.size))
  clear hb6
  go_wp2_with fail
  go_ret
  exact ⟨rfl, HB6.out⟩

end Go.Proofs.Ytdmgacoemabcfaa
