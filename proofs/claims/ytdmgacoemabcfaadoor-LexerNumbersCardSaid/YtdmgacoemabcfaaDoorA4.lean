/- The walk of the lexer's symbol. -/
import Derived.Test.YtdmgacoemabcfaaDoorA3
import Derived.IntWalk
namespace Go.Proofs.YtdmgacoemabcfaaDoor
open Go.RowKit

set_option maxRecDepth 100000 in
set_option maxHeartbeats 4000000 in
theorem symbol_one (Q : Nat) (s : ByteArray) (i : Nat) (hs : s.size ≤ maxLen) (hi : i < s.size) (w : World) (hQ : Src w Q s i 0) (c : Int) (hc : (s[i].toNat : Int) = c)
    (h1 : c = 43 ∨ c = 45 ∨ c = 42 ∨ c = 47 ∨ c = 40 ∨ c = 41 ∨ c = 123 ∨ c = 125 ∨ c = 44 ∨ c = 46 ∨ c = 64 ∨ c = 61) :
    Calls Tryd.prog 20 #[.pointer (some ⟨Q, 0, none⟩)] w fun e w' => e = .returned (tokVal 3 (s.extract i (i + 1)) 0 i) ∧ Left w Q s i 0 w' := by
  have h0 : w.cell? ⟨Q, 0, none⟩ = some (.string s) := hQ.cell 0
  have h1' : w.cell? ⟨Q, 1, none⟩ = some (.int .i64 i) := hQ.cell 1
  have h2 : w.cell? ⟨Q, 2, none⟩ = some (.int .i64 (0 : Nat)) := hQ.cell 2
  have hf := hQ.frozen 2
  have hlt := hQ.lt
  have HQ := Lib.hid hQ
  have hiI : (i : Int) < (s.size : Int) := by omega
  clear hQ
  unfold maxLen at hs
  rcases h1 with rfl | rfl | rfl | rfl | rfl | rfl | rfl | rfl | rfl | rfl | rfl | rfl
  all_goals
    go_enter Tryd.func20, Tryd.ntmps20
    go_wp2_with fail
    go_quiet (fail)
    go_wp2
    go_region
    go_wp2
    refine bodyPost_ret (v := tokVal 3 (s.extract i (i + 1)) 0 i) (by simp [results, Tryd.results20, go_sem, tokVal]) rfl ⟨rfl, ?_⟩
    exact ⟨by repeat (first | (with_reducible exact only_refl _ _) | (with_reducible refine only_drewN ?_ _) | (with_reducible refine only_drew ?_) | (with_reducible refine only_alloc ?_ _) | (with_reducible refine only_setCell ?_ (.inl rfl) _) | (with_reducible refine only_setCell ?_ (.inr (Nat.le_refl _)) _)), by repeat (first | (with_reducible exact HQ.out) | (with_reducible refine Src.drewN ?_ _) | (with_reducible refine Src.drew ?_) | (with_reducible refine Src.alloc ?_ _) | (with_reducible refine Src.far ?_ (Nat.ne_of_lt hlt) _) | (refine Src.err (e := 0) ?_ _))⟩

set_option maxRecDepth 100000 in
set_option maxHeartbeats 4000000 in
theorem symbol_two (Q : Nat) (s : ByteArray) (i : Nat) (hs : s.size ≤ maxLen) (hi : i < s.size) (w : World) (hQ : Src w Q s i 0) (c : Int) (hc : (s[i].toNat : Int) = c)
    (h1 : c = 33 ∨ c = 94) (hi1 : i + 1 < s.size) (hd : (s[i + 1].toNat : Int) = 61) :
    Calls Tryd.prog 20 #[.pointer (some ⟨Q, 0, none⟩)] w fun e w' => e = .returned (tokVal 3 (s.extract i (i + 2)) 0 i) ∧ Left w Q s i 0 w' := by
  have h0 : w.cell? ⟨Q, 0, none⟩ = some (.string s) := hQ.cell 0
  have h1' : w.cell? ⟨Q, 1, none⟩ = some (.int .i64 i) := hQ.cell 1
  have h2 : w.cell? ⟨Q, 2, none⟩ = some (.int .i64 (0 : Nat)) := hQ.cell 2
  have hf := hQ.frozen 2
  have hlt := hQ.lt
  have HQ := Lib.hid hQ
  have hiI : (i : Int) < (s.size : Int) := by omega
  clear hQ
  unfold maxLen at hs
  have hiJ : (i : Int) + 1 < (s.size : Int) := by omega
  rcases h1 with rfl | rfl
  all_goals
    go_enter Tryd.func20, Tryd.ntmps20
    go_wp2_with fail
    go_quiet (fail)
    go_wp2
    go_quiet (fail)
    go_wp2
    go_region
    go_wp2
    refine bodyPost_ret (v := tokVal 3 (s.extract i (i + 2)) 0 i) (by simp [results, Tryd.results20, go_sem, tokVal]) rfl ⟨rfl, ?_⟩
    exact ⟨by repeat (first | (with_reducible exact only_refl _ _) | (with_reducible refine only_drewN ?_ _) | (with_reducible refine only_drew ?_) | (with_reducible refine only_alloc ?_ _) | (with_reducible refine only_setCell ?_ (.inl rfl) _) | (with_reducible refine only_setCell ?_ (.inr (Nat.le_refl _)) _)), by repeat (first | (with_reducible exact HQ.out) | (with_reducible refine Src.drewN ?_ _) | (with_reducible refine Src.drew ?_) | (with_reducible refine Src.alloc ?_ _) | (with_reducible refine Src.far ?_ (Nat.ne_of_lt hlt) _) | (refine Src.err (e := 0) ?_ _))⟩

set_option maxRecDepth 100000 in
set_option maxHeartbeats 4000000 in
theorem symbol_last (Q : Nat) (s : ByteArray) (i : Nat) (hs : s.size ≤ maxLen) (hi : i < s.size) (w : World) (hQ : Src w Q s i 0) (c : Int) (hc : (s[i].toNat : Int) = c)
    (h1 : c = 33 ∨ c = 94) (hi1 : s.size ≤ i + 1) :
    Calls Tryd.prog 20 #[.pointer (some ⟨Q, 0, none⟩)] w fun e w' => e = .returned (tokVal 3 (s.extract i (i + 0)) 0 i) ∧ Left w Q s i 2 w' := by
  have h0 : w.cell? ⟨Q, 0, none⟩ = some (.string s) := hQ.cell 0
  have h1' : w.cell? ⟨Q, 1, none⟩ = some (.int .i64 i) := hQ.cell 1
  have h2 : w.cell? ⟨Q, 2, none⟩ = some (.int .i64 (0 : Nat)) := hQ.cell 2
  have hf := hQ.frozen 2
  have hlt := hQ.lt
  have HQ := Lib.hid hQ
  have hiI : (i : Int) < (s.size : Int) := by omega
  clear hQ
  unfold maxLen at hs
  rcases h1 with rfl | rfl
  all_goals
    go_enter Tryd.func20, Tryd.ntmps20
    go_wp2_with fail
    go_quiet (fail)
    go_wp2
    have hiJ : decide ((i : Int) + 1 < (s.size : Int)) = false := by simp; omega
    go_region
    go_wp2
    go_region
    go_wp2
    refine bodyPost_ret (v := tokVal 3 (s.extract i (i + 0)) 0 i) (by simp [results, Tryd.results20, go_sem, tokVal]) rfl ⟨rfl, ?_⟩
    exact ⟨by repeat (first | (with_reducible exact only_refl _ _) | (with_reducible refine only_drewN ?_ _) | (with_reducible refine only_drew ?_) | (with_reducible refine only_alloc ?_ _) | (with_reducible refine only_setCell ?_ (.inl rfl) _) | (with_reducible refine only_setCell ?_ (.inr (Nat.le_refl _)) _)), by repeat (first | (with_reducible exact HQ.out) | (with_reducible refine Src.drewN ?_ _) | (with_reducible refine Src.drew ?_) | (with_reducible refine Src.alloc ?_ _) | (with_reducible refine Src.far ?_ (Nat.ne_of_lt hlt) _) | (refine Src.err (e := 0) ?_ _))⟩

set_option maxRecDepth 100000 in
set_option maxHeartbeats 4000000 in
theorem symbol_other (Q : Nat) (s : ByteArray) (i : Nat) (hs : s.size ≤ maxLen) (hi : i < s.size) (w : World) (hQ : Src w Q s i 0) (c : Int) (hc : (s[i].toNat : Int) = c)
    (h1 : c = 33 ∨ c = 94) (hi1 : i + 1 < s.size) (d : Int) (hd : (s[i + 1].toNat : Int) = d) (hd2 : (d == 61) = false) :
    Calls Tryd.prog 20 #[.pointer (some ⟨Q, 0, none⟩)] w fun e w' => e = .returned (tokVal 3 (s.extract i (i + 0)) 0 i) ∧ Left w Q s i 2 w' := by
  have h0 : w.cell? ⟨Q, 0, none⟩ = some (.string s) := hQ.cell 0
  have h1' : w.cell? ⟨Q, 1, none⟩ = some (.int .i64 i) := hQ.cell 1
  have h2 : w.cell? ⟨Q, 2, none⟩ = some (.int .i64 (0 : Nat)) := hQ.cell 2
  have hf := hQ.frozen 2
  have hlt := hQ.lt
  have HQ := Lib.hid hQ
  have hiI : (i : Int) < (s.size : Int) := by omega
  clear hQ
  unfold maxLen at hs
  have hiJ : (i : Int) + 1 < (s.size : Int) := by omega
  rcases h1 with rfl | rfl
  all_goals
    go_enter Tryd.func20, Tryd.ntmps20
    go_wp2_with fail
    go_quiet (fail)
    go_wp2
    go_quiet (fail)
    go_wp2
    go_region
    go_wp2
    refine bodyPost_ret (v := tokVal 3 (s.extract i (i + 0)) 0 i) (by simp [results, Tryd.results20, go_sem, tokVal]) rfl ⟨rfl, ?_⟩
    exact ⟨by repeat (first | (with_reducible exact only_refl _ _) | (with_reducible refine only_drewN ?_ _) | (with_reducible refine only_drew ?_) | (with_reducible refine only_alloc ?_ _) | (with_reducible refine only_setCell ?_ (.inl rfl) _) | (with_reducible refine only_setCell ?_ (.inr (Nat.le_refl _)) _)), by repeat (first | (with_reducible exact HQ.out) | (with_reducible refine Src.drewN ?_ _) | (with_reducible refine Src.drew ?_) | (with_reducible refine Src.alloc ?_ _) | (with_reducible refine Src.far ?_ (Nat.ne_of_lt hlt) _) | (refine Src.err (e := 0) ?_ _))⟩

set_option maxRecDepth 100000 in
set_option maxHeartbeats 4000000 in
theorem symbol_none (Q : Nat) (s : ByteArray) (i : Nat) (hs : s.size ≤ maxLen) (hi : i < s.size) (w : World) (hQ : Src w Q s i 0) 
    (n43 : ((s[i].toNat : Int) == 43) = false) (n45 : ((s[i].toNat : Int) == 45) = false) (n42 : ((s[i].toNat : Int) == 42) = false) (n47 : ((s[i].toNat : Int) == 47) = false) (n40 : ((s[i].toNat : Int) == 40) = false) (n41 : ((s[i].toNat : Int) == 41) = false) (n123 : ((s[i].toNat : Int) == 123) = false) (n125 : ((s[i].toNat : Int) == 125) = false) (n44 : ((s[i].toNat : Int) == 44) = false) (n46 : ((s[i].toNat : Int) == 46) = false) (n64 : ((s[i].toNat : Int) == 64) = false) (n61 : ((s[i].toNat : Int) == 61) = false) (n33 : ((s[i].toNat : Int) == 33) = false) (n94 : ((s[i].toNat : Int) == 94) = false) :
    Calls Tryd.prog 20 #[.pointer (some ⟨Q, 0, none⟩)] w fun e w' => e = .returned (tokVal 3 (s.extract i (i + 0)) 0 i) ∧ Left w Q s i 2 w' := by
  have h0 : w.cell? ⟨Q, 0, none⟩ = some (.string s) := hQ.cell 0
  have h1' : w.cell? ⟨Q, 1, none⟩ = some (.int .i64 i) := hQ.cell 1
  have h2 : w.cell? ⟨Q, 2, none⟩ = some (.int .i64 (0 : Nat)) := hQ.cell 2
  have hf := hQ.frozen 2
  have hlt := hQ.lt
  have HQ := Lib.hid hQ
  have hiI : (i : Int) < (s.size : Int) := by omega
  clear hQ
  unfold maxLen at hs
  go_enter Tryd.func20, Tryd.ntmps20
  go_wp2_with fail
  go_quiet (fail)
  go_wp2
  go_region
  go_wp2
  refine bodyPost_ret (v := tokVal 3 (s.extract i (i + 0)) 0 i) (by simp [results, Tryd.results20, go_sem, tokVal]) rfl ⟨rfl, ?_⟩
  exact ⟨by repeat (first | (with_reducible exact only_refl _ _) | (with_reducible refine only_drewN ?_ _) | (with_reducible refine only_drew ?_) | (with_reducible refine only_alloc ?_ _) | (with_reducible refine only_setCell ?_ (.inl rfl) _) | (with_reducible refine only_setCell ?_ (.inr (Nat.le_refl _)) _)), by repeat (first | (with_reducible exact HQ.out) | (with_reducible refine Src.drewN ?_ _) | (with_reducible refine Src.drew ?_) | (with_reducible refine Src.alloc ?_ _) | (with_reducible refine Src.far ?_ (Nat.ne_of_lt hlt) _) | (refine Src.err (e := 0) ?_ _))⟩

end Go.Proofs.YtdmgacoemabcfaaDoor
