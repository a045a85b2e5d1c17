/- The walks of net's and session's small functions. -/
import Derived.BigGuardPart
import Derived.Handy
import Derived.Test.YteajdkneiejlaaaGChk
namespace Go.Proofs.Yteajdkneiejlaaa
open Go.RowKit Hg

set_option maxHeartbeats 1000000 in
theorem netNew_any (w : World) : Calls Try.prog 15 #[.int .i64 2] w fun e w' => e = .returned (.tuple #[.pointer (some ⟨w.heap.size, 0, none⟩), .int .i64 0]) ∧ w.alloc (.cells #[i64 2, .slice none 0 0] 63) = w' := by
  go_enter Try.func15, Try.ntmps15
  go_wp2
  go_returns
  exact ⟨rfl, rfl⟩

set_option maxHeartbeats 1000000 in
theorem sesNew_any (m : Int) (h0 : 1 ≤ m) (h1 : m ≤ 1099511627776) (w : World) : Calls Try.prog 14 #[i64 m] w fun e w' => e = .returned (.tuple #[.pointer (some ⟨w.heap.size, 0, none⟩), .int .i64 0]) ∧ w.alloc (.cells #[i64 m, i64 0, i64 1, .slice none 0 0, i64 0, .bool false, .bool false] 83) = w' := by
  have e1 : decide (m < 1) = false := by simp; omega
  have e2 : decide (1099511627776 < m) = false := by simp; omega
  go_enter Try.func14, Try.ntmps14
  go_wp2
  go_returns
  exact ⟨rfl, rfl⟩

set_option maxHeartbeats 1000000 in
theorem netLen_any (N : Nat) (A : Option Addr) (n c : Nat) (w : World) (h1 : w.cell? ⟨N, 1, none⟩ = some (.slice A n c)) : Calls Try.prog 7 #[.pointer (some ⟨N, 0, none⟩)] w (Same (i64 (n : Int)) w) := by
  go_enter Try.func7, Try.ntmps7
  go_wp2
  go_ret
  exact ⟨rfl, rfl⟩

set_option maxHeartbeats 1000000 in
theorem waiting_any (C : Nat) (A : Option Addr) (n c : Nat) (w : World) (h1 : w.cell? ⟨C, 3, none⟩ = some (.slice A n c)) : Calls Try.prog 12 #[.pointer (some ⟨C, 0, none⟩)] w (Same (i64 (n : Int)) w) := by
  go_enter Try.func12, Try.ntmps12
  go_wp2
  go_ret
  exact ⟨rfl, rfl⟩

set_option maxHeartbeats 1000000 in
theorem epochs_any (C : Nat) (a b : Int) (w : World) (h0 : w.cell? ⟨C, 0, none⟩ = some (i64 a)) (h1 : w.cell? ⟨C, 1, none⟩ = some (i64 b)) : Calls Try.prog 17 #[.pointer (some ⟨C, 0, none⟩)] w (Ret (.tuple #[i64 a, i64 b]) w) := by
  go_enter Try.func17, Try.ntmps17
  go_wp2
  go_region_held3 (fun W => W.cell? ⟨C, 0, none⟩ = some (i64 a) ∧ W.cell? ⟨C, 1, none⟩ = some (i64 b)) (go_keep) (fail)
  go_wp2
  go_returns
  exact ⟨rfl, (Chg.refl _ _).drew⟩

set_option maxHeartbeats 1000000 in
theorem node_any (N : Nat) (k _n : Int) (w : World) (hk : k = 0 ∨ k = 1) (h1 : w.cell? ⟨N, 0, none⟩ = some (i64 2)) : Calls Try.prog 70 #[.pointer (some ⟨N, 0, none⟩), i64 k] w (Same (.bool true) w) := by
  rcases hk with rfl | rfl
  all_goals (
    go_enter Try.func70, Try.ntmps70
    go_wp2
    go_ret
    exact ⟨rfl, rfl⟩)

/-- what at answers -/
def inNet (k : Int) (n : Nat) : Bool := decide (0 ≤ k) && decide (k < n)
set_option maxHeartbeats 1000000 in
theorem at_any (N : Nat) (A : Option Addr) (n c : Nat) (k : Int) (w : World) (h1 : w.cell? ⟨N, 1, none⟩ = some (.slice A n c)) : Calls Try.prog 26 #[.pointer (some ⟨N, 0, none⟩), i64 k] w (Same (.bool (inNet k n)) w) := by
  cases h0 : decide (0 ≤ k) with
  | false =>
    have hf : Hid (inNet k n = false) := by simp [Hid, inNet, h0]
    go_enter Try.func26, Try.ntmps26
    go_wp2
    go_ret
    exact ⟨by rw [hf.out]; rfl, rfl⟩
  | true =>
    have hf : Hid (inNet k n = decide (k < n)) := by simp [Hid, inNet, h0]
    go_enter Try.func26, Try.ntmps26
    go_wp2
    go_ret
    exact ⟨by rw [hf.out]; rfl, rfl⟩

set_option maxHeartbeats 1000000 in
set_option maxRecDepth 100000 in
/-- of a packet between the two nodes: nothing is wrong -/
theorem wrong_any (N : Nat) (k : Int) (t : Bytes) (w : World) (hk : k = 0 ∨ k = 1) (ht : t.length ≤ 65536) (h1 : w.cell? ⟨N, 0, none⟩ = some (i64 2)) :
    Calls Try.prog 45 #[.pointer (some ⟨N, 0, none⟩), .agg #[i64 k, i64 (1 - k), strV t]] w (Ret (.bool false) w) := by
  have hN := cell_lt h1
  have e1 : decide ((65536 : Int) < (t.length : Int)) = false := by simp; omega
  have k0 : (w.alloc (.cells #[i64 k, i64 (1 - k), strV t] 45)).cell? ⟨N, 0, none⟩ = some (i64 2) := ((((Chg.refl [] w).alloc _).cell (p := ⟨N, 0, none⟩) hN (by simp))).trans h1
  rcases hk with rfl | rfl
  · have K0 := Lib.hid k0
    clear k0 h1 ht
    go_enter Try.func45, Try.ntmps45
    go_wp2_with (go_at_call 70; refine (node_any N _ 0 _ (by first | exact .inl rfl | exact .inr rfl) K0.out).mono ?_; rintro e w1 ⟨rfl, rfl⟩)
    go_ret
    exact ⟨by first | rfl | (simp only [e1]; rfl) | (simp [e1]), (Chg.refl _ _).alloc _⟩
  · have K0 := Lib.hid k0
    clear k0 h1 ht
    go_enter Try.func45, Try.ntmps45
    go_wp2_with (go_at_call 70; refine (node_any N _ 0 _ (by first | exact .inl rfl | exact .inr rfl) K0.out).mono ?_; rintro e w1 ⟨rfl, rfl⟩)
    go_ret
    exact ⟨by first | rfl | (simp only [e1]; rfl) | (simp [e1]), (Chg.refl _ _).alloc _⟩
end Go.Proofs.Yteajdkneiejlaaa
