/- LexerRaw: for every string (its first 200 bytes), also in quotes and as a part of a query, Tokens agrees with the reference: the law's walk. -/
import Derived.Test.YtdmgacoemabcfaaC2
namespace Go.Proofs.Ytdmgacoemabcfaa
open Go.RowKit

theorem bsz (a : Array UInt8) : (ByteArray.mk a).size = a.size := rfl

set_option maxRecDepth 100000 in
set_option maxHeartbeats 1000000 in
theorem raw_walk (s : ByteArray) (hs : s.size ≤ maxLen) (w : World) : Calls Try.prog 4 #[.string s] w (Agreed w) := by
  have hf : (s.extract 0 (min 200 s.size)).size ≤ 200 := by simp; omega
  have HS := fun W => Lib.hid (short_any s hs 200 (by omega) W)
  generalize s.extract 0 (min 200 s.size) = few at *
  go_enter Try.func4, Try.ntmps4
  go_wp2_with fail
  refine (HS w).out.mono ?_
  rintro e w1 ⟨rfl, rfl⟩
  go_wp2_with fail
  refine (agrees_any few (by unfold maxLen; omega) w).mono ?_
  rintro e w1 ⟨rfl, hb1⟩
  have HB1 := Lib.hid hb1
  clear hb1
  go_wp2_with fail
  with_reducible refine (agrees_any _ ?hz1 w1).mono ?_
  case hz1 => simp only [ByteArray.size_append, bsz, List.size_toArray, List.length_cons, List.length_nil]; unfold maxLen; omega
  rintro e w2 ⟨rfl, hb2⟩
  have HB2 := Lib.hid (HB1.out.trans (hb2.mono HB1.out.size))
  clear hb2
  go_wp2_with fail
  with_reducible refine (agrees_any _ ?hz2 w2).mono ?_
  case hz2 => simp only [ByteArray.size_append, bsz, List.size_toArray, List.length_cons, List.length_nil]; unfold maxLen; omega
  rintro e w3 ⟨rfl, hb3⟩
  have HB3 := Lib.hid (HB2.out.trans (hb3.mono HB2.out.size))
  clear hb3
  go_wp2_with fail
  with_reducible refine (agrees_any _ ?hz3 w3).mono ?_
  case hz3 => simp only [ByteArray.size_append, bsz, List.size_toArray, List.length_cons, List.length_nil]; unfold maxLen; omega
  rintro e w4 ⟨rfl, hb4⟩
  have HB4 := Lib.hid (HB3.out.trans (hb4.mono HB3.out.size))
  clear hb4
  go_wp2_with fail
  refine (lives_any w4).mono ?_
  rintro e w5 ⟨rfl, hb5⟩
  have HB5 := Lib.hid (HB4.out.trans (hb5.mono HB4.out.size))
  clear hb5
  go_wp2_with fail
  go_ret
  exact ⟨rfl, HB5.out⟩

end Go.Proofs.Ytdmgacoemabcfaa
