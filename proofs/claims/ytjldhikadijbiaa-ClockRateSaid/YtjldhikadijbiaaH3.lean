/- The walk of frac's Valid at a reduced fraction. -/
import Derived.Test.YtjldhikadijbiaaH2
namespace Go.Proofs.Ytjldhikadijbiaa
open Go.RowKit

/-- a small reduced fraction -/
structure Rd (n : Int) (d : Nat) : Prop where
  n1 : -1073741824 ≤ n
  n2 : n ≤ 1073741824
  d1 : 1 ≤ d
  d2 : d ≤ 1073741824
  red : Nat.gcd n.natAbs d = 1

set_option maxRecDepth 100000 in
set_option maxHeartbeats 1000000 in
theorem fvalid_any (n : Int) (d : Nat) (h : Rd n d) (w : World) : Calls Try.prog 38 #[fr n d] w (Told true w) := by
  obtain ⟨n1, n2, d1, d2, hr⟩ := h
  obtain ⟨m, hm⟩ : ∃ m, m = n.natAbs := ⟨_, rfl⟩
  have HA := fun W => Lib.hid (fabs_any n m hm.symm (by omega) (by omega) W)
  have HGc := fun W => Lib.hid (gcd_any m d (by omega) (by omega) W)
  rw [hm, hr] at HGc
  rw [← hm] at HGc
  have hb0 : decide ((d : Int) < 1) = false := by simp; omega
  have hb1 : decide (4611686018427387904 < (d : Int)) = false := by simp; omega
  have hb2 : decide (n < -4611686018427387904) = false := by simp; omega
  have hb3 : decide (4611686018427387904 < n) = false := by simp; omega
  unfold fr
  obtain ⟨wb, hwb⟩ : ∃ wb, wb = w.alloc (.cells #[.int .i64 n, .int .i64 (d : Int)] 28) := ⟨_, rfl⟩
  have hbl : Blk wb w.heap.size 28 #[.int .i64 n, .int .i64 (d : Int)] := by rw [hwb]; exact Blk.new w 28 _
  have HB : Hid (Below w.heap.size w wb) := Lib.hid (by rw [hwb]; exact (Below.refl _ w).alloc (Nat.le_refl _) _)
  have HWB := Lib.hid hwb
  clear hwb hm hr
  go_enter Try.func38, Try.ntmps38
  go_wp2_with fail
  rw [← HWB.out]
  have c0 := hbl.cell 0
  have c1 := hbl.cell 1
  clear hbl
  go_wp2_with fail
  go_quiet (first | (go_at_call 37; exact Calls.quiet_of_same (HA _).out) | (go_at_call 36; exact Calls.quiet_of (HGc _).out))
  go_wp2_with fail
  go_ret
  exact ⟨rfl, below_drewN HB.out _⟩

end Go.Proofs.Ytjldhikadijbiaa
