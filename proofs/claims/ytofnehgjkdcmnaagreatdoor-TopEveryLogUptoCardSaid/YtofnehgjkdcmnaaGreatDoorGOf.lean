/- The walk of codec.of. -/
import Derived.Handy
import Derived.Test.YtofnehgjkdcmnaaGreatDoorGChk
namespace Go.Proofs.YtofnehgjkdcmnaaGreatDoor
open Go.RowKit Hg

/-- which of its parts a kind of message has -/
abbrev ofV (k : Int) : Value := .tuple #[.agg #[.bool (ofT k), .bool (ofN k), .bool (ofC k), .bool (ofB k), .bool (ofI k)], .bool (ofOk k)]

set_option maxHeartbeats 1000000 in
set_option maxRecDepth 100000 in
theorem of_any (k : Int) (w : World) : Calls Tryz.prog 26 #[i64 k] w (Ret (ofV k) w) := by
  by_cases hk : 1 ≤ k ∧ k ≤ 12
  · rcases (by omega : k = 1 ∨ k = 2 ∨ k = 3 ∨ k = 4 ∨ k = 5 ∨ k = 6 ∨ k = 7 ∨ k = 8 ∨ k = 9 ∨ k = 10 ∨ k = 11 ∨ k = 12) with rfl | rfl | rfl | rfl | rfl | rfl | rfl | rfl | rfl | rfl | rfl | rfl
    all_goals (
      clear hk
      go_enter Tryz.func26, Tryz.ntmps26
      go_wp2
      go_returns
      exact ⟨rfl, by repeat (first | exact Chg.refl _ _ | apply Chg.alloc)⟩)
  · have e : ofV k = .tuple #[.agg #[.bool false, .bool false, .bool false, .bool false, .bool false], .bool false] := by
      have h : ∀ j : Int, 1 ≤ j → j ≤ 12 → (k == j) = false := fun j h1 h2 => by simp; omega
      simp only [ofV, ofT, ofN, ofC, ofB, ofI, ofOk, h 1 (by omega) (by omega), h 2 (by omega) (by omega), h 3 (by omega) (by omega), h 4 (by omega) (by omega), h 5 (by omega) (by omega), h 6 (by omega) (by omega), h 7 (by omega) (by omega), h 8 (by omega) (by omega), h 9 (by omega) (by omega), h 10 (by omega) (by omega), h 11 (by omega) (by omega), h 12 (by omega) (by omega)]
      have : (decide (1 ≤ k) && decide (k ≤ 12)) = false := by simp; omega
      rw [this]; rfl
    rw [e]
    have h1 : (k == 1) = false := by simp; omega
    have h2 : (k == 2) = false := by simp; omega
    have h3 : (k == 3) = false := by simp; omega
    have h4 : (k == 4) = false := by simp; omega
    have h5 : (k == 5) = false := by simp; omega
    have h6 : (k == 6) = false := by simp; omega
    have h7 : (k == 7) = false := by simp; omega
    have h8 : (k == 8) = false := by simp; omega
    have h9 : (k == 9) = false := by simp; omega
    have h10 : (k == 10) = false := by simp; omega
    have h11 : (k == 11) = false := by simp; omega
    have h12 : (k == 12) = false := by simp; omega
    clear hk e
    go_enter Tryz.func26, Tryz.ntmps26
    go_wp2
    go_returns
    exact ⟨rfl, by repeat (first | exact Chg.refl _ _ | apply Chg.alloc)⟩
end Go.Proofs.YtofnehgjkdcmnaaGreatDoor
