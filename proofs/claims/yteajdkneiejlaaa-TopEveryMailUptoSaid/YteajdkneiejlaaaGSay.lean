/- The walks of session's Say. -/
import Derived.Test.YteajdkneiejlaaaGSend
namespace Go.Proofs.Yteajdkneiejlaaa
open Go.RowKit Hg

set_option maxHeartbeats 400000 in
theorem sayTest_any (t : Bytes) (w : World) : Calls Try.prog 41 #[strV t] w (Same (.bool (decide (65472 < t.length))) w) := by
  go_enter Try.func41, Try.ntmps41
  go_wp2
  go_ret
  exact ⟨by simp; omega, rfl⟩

/-- the index of a text that is too long, of one -/
def idxOf : Bool → Value
  | true => .int .i64 0
  | false => .int .i64 (-1)

set_option maxHeartbeats 1000000 in
set_option maxRecDepth 100000 in
theorem strIndex_any (t : Bytes) (A : Option Addr) (c : Nat) (big : Bool) (hbig : decide (65472 < t.length) = big) (w : World) (hr : Rd w 1 A 1 [strV t]) :
    Calls Try.prog 67 #[.slice A 1 c, .func (.func 41) #[] #[]] w (Ret (idxOf big) w) := by
  obtain ⟨ad, rfl, hc⟩ := hr.2 (by omega)
  have c0 : w.cell? ad = some (strV t) := by have := hc 0 _ rfl; simpa [Addr.add] using this
  have T1 := Lib.hid (fun w => sayTest_any t w)
  rw [hbig] at T1
  clear hr hc hbig
  go_enter Try.func67, Try.ntmps67
  go_wp2_with fail
  go_loopw [5, 8] (fun _ i wr => (i = .int .i64 0 ∧ w = wr) ∨ (big = false ∧ i = .int .i64 1 ∧ w = wr))
    (fun _ i _ => 1 - (intOf i).toNat)
  case atStart => exact .inl ⟨rfl, rfl⟩
  case round =>
    rcases hrel with ⟨rfl, rfl⟩ | ⟨hb, rfl, rfl⟩
    · cases big with
      | false =>
        go_wp2_with (go_at_call 41; refine (T1.out _).mono ?_; rintro e w1 ⟨rfl, rfl⟩)
        go_roundw
        case rel => exact .inr ⟨by first | trivial | rfl, by first | trivial | go_num, by first | trivial | rfl⟩
        case measure => simp [intOf]
      | true =>
        go_wp2_with (go_at_call 41; refine (T1.out _).mono ?_; rintro e w1 ⟨rfl, rfl⟩)
        go_ret
        exact ⟨rfl, Chg.refl _ _⟩
    · subst hb
      go_wp2_with fail
      go_ret
      exact ⟨rfl, Chg.refl _ _⟩

set_option maxHeartbeats 1000000 in
theorem strContains_any (t : Bytes) (A : Option Addr) (c : Nat) (w : World) (hr : Rd w 1 A 1 [strV t]) :
    Calls Try.prog 40 #[.slice A 1 c, .func (.func 41) #[] #[]] w (Ret (.bool (decide (65472 < t.length))) w) := by
  cases hb : decide (65472 < t.length) with
  | false =>
    have I1 : Hid (Calls Try.prog 67 #[.slice A 1 c, .func (.func 41) #[] #[]] w (Ret (.int .i64 (-1)) w)) := Lib.hid (strIndex_any t A c false hb w hr)
    clear hr
    go_enter Try.func40, Try.ntmps40
    go_wp2_with (go_at_call 67; refine I1.out.mono ?_; rintro e w1 ⟨rfl, hg1⟩)
    go_ret
    exact ⟨rfl, hg1⟩
  | true =>
    have I1 : Hid (Calls Try.prog 67 #[.slice A 1 c, .func (.func 41) #[] #[]] w (Ret (.int .i64 0) w)) := Lib.hid (strIndex_any t A c true hb w hr)
    clear hr
    go_enter Try.func40, Try.ntmps40
    go_wp2_with (go_at_call 67; refine I1.out.mono ?_; rintro e w1 ⟨rfl, hg1⟩)
    go_ret
    exact ⟨rfl, hg1⟩
end Go.Proofs.Yteajdkneiejlaaa
