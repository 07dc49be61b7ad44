/- The walks of the reference's Value (at one byte), quoted and symbol. -/
import Derived.Test.YtdmgacoemabcfaaB1
import Derived.Test.YtdmgacoemabcfaaA5
namespace Go.Proofs.Ytdmgacoemabcfaa
open Go.RowKit

theorem valc_eq (c : UInt8) : Lx.valc c = !(decide ((c.toNat : Int) < 33) || decide (126 < (c.toNat : Int)) || ((c.toNat : Int) == 34) || ((c.toNat : Int) == 92) || ((c.toNat : Int) == 44) || ((c.toNat : Int) == 123) || ((c.toNat : Int) == 125)) := by
  unfold Lx.valc
  rw [Bool.eq_iff_iff]
  simp [← UInt8.toNat_inj, UInt8.le_iff_toNat_le]
  constructor <;> intro h <;> omega

set_option maxRecDepth 100000 in
set_option maxHeartbeats 2000000 in
theorem value_one (y : ByteArray) (hy : y.size = 1) (w : World) :
    Calls Try.prog 47 #[.string y] w fun e w' => e = .returned (.bool (Lx.valc (y[0]'(by omega)))) ∧ w = w' := by
  have h0 : 0 < y.size := by omega
  have hb : (y[0].toNat : Int) < 256 := by have := y[0].toNat_lt; omega
  have HV := Lib.hid (valc_eq y[0])
  have hc : decide ((16 : Int) < 1) = false := by decide
  generalize hc0 : y[0] = c at *
  by_cases h1 : (c.toNat : Int) < 33
  · go_enter Try.func47, Try.ntmps47
    go_wp2_with fail
    refine wp_loop_rounds 1 ?_
    rw [rounds_succ]
    go_wp2
    go_ret
    exact ⟨ret_bool (by rw [HV.out]; simp [h1]), rfl⟩
  · by_cases h2 : 126 < (c.toNat : Int)
    · go_enter Try.func47, Try.ntmps47
      go_wp2_with fail
      refine wp_loop_rounds 1 ?_
      rw [rounds_succ]
      go_wp2
      go_ret
      exact ⟨ret_bool (by rw [HV.out]; simp [h2]), rfl⟩
    · cases h3 : ((c.toNat : Int) == 34) <;> cases h4 : ((c.toNat : Int) == 92) <;> cases h5 : ((c.toNat : Int) == 44) <;> cases h6 : ((c.toNat : Int) == 123) <;> cases h7 : ((c.toNat : Int) == 125)
      · go_enter Try.func47, Try.ntmps47
        go_wp2_with fail
        refine wp_loop_rounds 2 ?_
        rw [rounds_succ]
        go_wp2
        rw [rounds_succ]
        go_wp2
        go_ret
        exact ⟨ret_bool (by rw [HV.out, h3, h4, h5, h6, h7]; simp; omega), rfl⟩
      all_goals
        go_enter Try.func47, Try.ntmps47
        go_wp2_with fail
        refine wp_loop_rounds 1 ?_
        rw [rounds_succ]
        go_wp2
        go_ret
        exact ⟨ret_bool (by rw [HV.out, h3, h4, h5, h6, h7]; simp), rfl⟩

end Go.Proofs.Ytdmgacoemabcfaa
