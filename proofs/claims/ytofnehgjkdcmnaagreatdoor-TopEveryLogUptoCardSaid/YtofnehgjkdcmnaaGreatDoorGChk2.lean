/- The walks of parts.Check, some, CheckCmd, codec.number, session.number. -/
import Derived.Test.YtofnehgjkdcmnaaGreatDoorGChk
import Derived.BigGuardPart
namespace Go.Proofs.YtofnehgjkdcmnaaGreatDoor
open Go.RowKit Hg

set_option maxHeartbeats 400000 in
theorem check_any (b : Bun) (w : World) : Calls Tryz.prog 63 #[bunV b] w (Ret (okArg (chkBun b)) w) := by
  cases h1 : right b with
  | false =>
    have hf : Hid (chkBun b = false) := by simp [Hid, chkBun, h1]
    go_enter Tryz.func63, Tryz.ntmps63
    go_wp2_with (go_at_call 101; refine (right_any b _).mono ?_; rintro e w1 ⟨rfl, hg1⟩)
    go_ret
    exact ⟨by rw [hf.out]; rfl, ((Chg.refl _ _).alloc _).trans hg1⟩
  | true =>
    have hp : hasP b.mask 1 = bit b.mask 0 := by
      have : 0 ≤ b.mask ∧ b.mask ≤ 31 := by simp [right] at h1; omega
      exact and_bit' this.1 this.2 0 (by omega) 1 rfl
    cases h2 : bit b.mask 0 with
    | false =>
      have hf : Hid (chkBun b = false) := by simp [Hid, chkBun, h2]
      go_enter Tryz.func63, Tryz.ntmps63
      go_wp2_with (first
        | (go_at_call 101; refine (right_any b _).mono ?_; rintro e w1 ⟨rfl, hg1⟩; have k := cells_keep hg1 (b := w.heap.size) (by simp) (by simp))
        | (go_at_call 102; refine (has_any b _ _).mono ?_; rintro e w2 ⟨rfl, hg2⟩))
      go_ret
      exact ⟨by rw [hf.out]; rfl, (((Chg.refl _ _).alloc _).trans hg1).trans hg2⟩
    | true =>
      have hf : Hid (chkBun b = chkID b.id) := by simp [Hid, chkBun, h1, h2]
      go_enter Tryz.func63, Tryz.ntmps63
      go_wp2_with (first
        | (go_at_call 101; refine (right_any b _).mono ?_; rintro e w1 ⟨rfl, hg1⟩; have k := cells_keep hg1 (b := w.heap.size) (by simp) (by simp); have hs1 : w.heap.size < w1.heap.size := (by have := hg1.size; simp at this; omega))
        | (go_at_call 102; refine (has_any b _ _).mono ?_; rintro e w2 ⟨rfl, hg2⟩; have k2 := cells_keep hg2 (b := w.heap.size) hs1 (by simp))
        | (go_at_call 65; refine (checkID_any b.id _).mono ?_; rintro e w3 ⟨rfl, hg3⟩))
      go_ret
      exact ⟨by rw [hf.out]; rfl, ((((Chg.refl _ _).alloc _).trans hg1).trans hg2).trans hg3⟩

theorem and_one : ∀ (a : Fin 32), (bits BinOp.and IntKind.i64 (a.val : Int) 1 == 0) = !bit (a.val : Int) 0 := by decide +kernel
theorem and_one' {m : Int} (h0 : 0 < m) (h1 : m ≤ 31) : (bits BinOp.and IntKind.i64 m 1 == 0) = !bit m 0 := by
  have := and_one ⟨m.toNat, by omega⟩
  rw [show ((m.toNat : Nat) : Int) = m by omega] at this
  exact this

set_option maxHeartbeats 400000 in
theorem some_any (m : Int) (w : World) : Calls Tryz.prog 100 #[i64 m] w (Same (.bool (some' m)) w) := by
  rcases Int.lt_or_le 0 m with h0 | h0
  · have d0 : decide (0 < m) = true := by simpa using h0
    rcases Int.lt_or_le 31 m with h1 | h1
    · have d1 : decide (m ≤ 31) = false := by simp; omega
      have hf : Hid (some' m = false) := by simp [Hid, some', d1]
      go_enter Tryz.func100, Tryz.ntmps100
      go_wp2
      go_ret
      exact ⟨by rw [hf.out]; rfl, rfl⟩
    · have d1 : decide (m ≤ 31) = true := by simpa using h1
      have hf : Hid (some' m = (bits BinOp.and IntKind.i64 m 1 == 0)) := by rw [Hid, and_one' h0 h1]; simp [some', d0, d1]
      go_enter Tryz.func100, Tryz.ntmps100
      go_wp2
      go_ret
      exact ⟨by rw [hf.out]; rfl, rfl⟩
  · have d0 : decide (0 < m) = false := by simpa using h0
    have hf : Hid (some' m = false) := by simp [Hid, some', d0]
    go_enter Tryz.func100, Tryz.ntmps100
    go_wp2
    go_ret
    exact ⟨by rw [hf.out]; rfl, rfl⟩

set_option maxHeartbeats 400000 in
theorem number_any (has : Bool) (n : Int) (w : World) : Calls Tryz.prog 59 #[.bool has, i64 n] w (Same (.bool (num has n)) w) := by
  cases has with
  | false =>
    go_enter Tryz.func59, Tryz.ntmps59
    go_wp2
    go_ret
    exact ⟨rfl, rfl⟩
  | true =>
    by_cases h : 1 ≤ n
    · have hf : Hid (num true n = decide (n ≤ 1099511627776)) := by simp [Hid, num, h]
      go_enter Tryz.func59, Tryz.ntmps59
      go_wp2
      go_ret
      exact ⟨by rw [hf.out]; rfl, rfl⟩
    · have hf : Hid (num true n = false) := by simp [Hid, num, h]
      have d : decide (1 ≤ n) = false := by simpa using h
      go_enter Tryz.func59, Tryz.ntmps59
      go_wp2
      go_ret
      exact ⟨by rw [hf.out]; rfl, rfl⟩

end Go.Proofs.YtofnehgjkdcmnaaGreatDoor
