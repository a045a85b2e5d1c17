/- The walks of what may be: parts.within, Has, some, right, CheckID, Check, CheckCmd. -/
import Derived.Test.YtofnehgjkdcmnaaGreatDoorRows
import Derived.Test.YtofnehgjkdcmnaaGreatDoorGPl
import Derived.Test.YtofnehgjkdcmnaaGreatDoorGMem
import Derived.WalkKit
import Derived.WalkLawsBesides
import Derived.WalkSpells
import Derived.Deep.RegionHeld3
namespace Go.Proofs.YtofnehgjkdcmnaaGreatDoor
open Go.RowKit Hg

/-- it returns v, and has made new blocks alone -/
def Ret (v : Value) (w : World) (e : Ending) (w' : World) : Prop := e = .returned v ∧ Chg [] w w'
/-- it returns v, and the world is as it was -/
def Same (v : Value) (w : World) (e : Ending) (w' : World) : Prop := e = .returned v ∧ w = w'

abbrev i64 (n : Int) : Value := .int .i64 n
abbrev idV (i : ID) : Value := .agg #[i64 i.shard, i64 i.index, i64 i.gen]

set_option maxHeartbeats 400000 in
theorem within_any (has : Bool) (n lo hi : Int) (w : World) :
    Calls Tryz.prog 103 #[.bool has, i64 n, i64 lo, i64 hi] w (Same (.bool (within has n lo hi)) w) := by
  cases has with
  | false =>
    go_enter Tryz.func103, Tryz.ntmps103
    go_wp2
    go_ret
    exact ⟨rfl, rfl⟩
  | true =>
    by_cases h : lo ≤ n
    · go_enter Tryz.func103, Tryz.ntmps103
      go_wp2
      go_ret
      exact ⟨by simp [within, h], rfl⟩
    · go_enter Tryz.func103, Tryz.ntmps103
      go_wp2
      go_ret
      exact ⟨by simp [within]; omega, rfl⟩

/-- api's error of a test: OK or ErrArg -/
def okArg (b : Bool) : Value := .int .i64 (if b then 0 else 1)
theorem okArg_t : okArg true = .int .i64 0 := rfl
theorem okArg_f : okArg false = .int .i64 1 := rfl

set_option maxHeartbeats 400000 in
theorem checkID_any (i : ID) (w : World) :
    Calls Tryz.prog 65 #[idV i] w (Ret (okArg (chkID i)) w) := by
  cases h1 : within true i.shard 0 15 with
  | false =>
    have hf : Hid (chkID i = false) := by simp [Hid, chkID, h1]
    go_enter Tryz.func65, Tryz.ntmps65
    go_wp2_with (go_at_call 103; refine (within_any _ _ _ _ _).mono ?_; rintro e w' ⟨rfl, rfl⟩)
    go_ret
    exact ⟨by rw [hf.out]; rfl, by repeat (first | exact Chg.refl _ _ | apply Chg.alloc)⟩
  | true =>
  cases h2 : within true i.index 0 15 with
  | false =>
    have hf : Hid (chkID i = false) := by simp [Hid, chkID, h1, h2]
    go_enter Tryz.func65, Tryz.ntmps65
    go_wp2_with (go_at_call 103; refine (within_any _ _ _ _ _).mono ?_; rintro e w' ⟨rfl, rfl⟩)
    go_ret
    exact ⟨by rw [hf.out]; rfl, by repeat (first | exact Chg.refl _ _ | apply Chg.alloc)⟩
  | true =>
  cases h3 : within true i.gen 0 1048575 with
  | false =>
    have hf : Hid (chkID i = false) := by simp [Hid, chkID, h1, h2, h3]
    go_enter Tryz.func65, Tryz.ntmps65
    go_wp2_with (go_at_call 103; refine (within_any _ _ _ _ _).mono ?_; rintro e w' ⟨rfl, rfl⟩)
    go_ret
    exact ⟨by rw [hf.out]; rfl, by repeat (first | exact Chg.refl _ _ | apply Chg.alloc)⟩
  | true =>
    have hf : Hid (chkID i = true) := by simp [Hid, chkID, h1, h2, h3]
    go_enter Tryz.func65, Tryz.ntmps65
    go_wp2_with (go_at_call 103; refine (within_any _ _ _ _ _).mono ?_; rintro e w' ⟨rfl, rfl⟩)
    go_ret
    exact ⟨by rw [hf.out]; rfl, by repeat (first | exact Chg.refl _ _ | apply Chg.alloc)⟩

theorem and_bit : ∀ (a : Fin 32) (k : Fin 5), (bits BinOp.and IntKind.i64 (a.val : Int) ((2 ^ k.val : Nat) : Int) == ((2 ^ k.val : Nat) : Int)) = bit (a.val : Int) k.val := by decide +kernel

theorem and_bit' {m : Int} (h0 : 0 ≤ m) (h1 : m ≤ 31) (k : Nat) (hk : k < 5) (p : Int) (hp : p = ((2 ^ k : Nat) : Int)) : (bits BinOp.and IntKind.i64 m p == p) = bit m k := by
  subst hp
  have := and_bit ⟨m.toNat, by omega⟩ ⟨k, hk⟩
  rw [show ((m.toNat : Nat) : Int) = m by omega] at this
  exact this

abbrev bunV (b : Bun) : Value := .agg #[i64 b.id.shard, i64 b.id.index, i64 b.id.gen, i64 b.mask, i64 b.x, i64 b.y, i64 b.vx, i64 b.vy, i64 b.hp, i64 b.power, i64 b.left]

/-- has a mask all bits of another one? -/
def hasP (m p : Int) : Bool := bits BinOp.and IntKind.i64 m p == p

set_option maxHeartbeats 400000 in
theorem has_any (b : Bun) (p : Int) (w : World) :
    Calls Tryz.prog 102 #[bunV b, i64 p] w (Ret (.bool (hasP b.mask p)) w) := by
  go_enter Tryz.func102, Tryz.ntmps102
  go_wp2
  go_ret
  exact ⟨rfl, by repeat (first | exact Chg.refl _ _ | apply Chg.alloc)⟩

/-- the tests of right, one by one -/
def rightL (b : Bun) : List Bool := [within (hasP b.mask 1) b.x (-1073741824) 1073741824, within (hasP b.mask 1) b.y (-1073741824) 1073741824, within (hasP b.mask 2) b.vx (-1073741824) 1073741824, within (hasP b.mask 2) b.vy (-1073741824) 1073741824, within (hasP b.mask 4) b.hp (1) 1048576, within (hasP b.mask 8) b.power (0) 1024, within (hasP b.mask 16) b.left (1) 1048576]

set_option maxHeartbeats 1000000 in
set_option maxRecDepth 100000 in
theorem right_any (b : Bun) (w : World) : Calls Tryz.prog 101 #[bunV b] w (Ret (.bool (right b)) w) := by
  rcases Int.lt_or_le b.mask 0 with h0 | h0
  · have hf : Hid (right b = false) := by simp [Hid, right]; omega
    have d0 : decide (b.mask < 0) = true := by simpa using h0
    go_enter Tryz.func101, Tryz.ntmps101
    go_wp2
    go_ret
    exact ⟨by rw [hf.out]; rfl, by repeat (first | exact Chg.refl _ _ | apply Chg.alloc)⟩
  · have d0 : decide (b.mask < 0) = false := by simpa using h0
    rcases Int.lt_or_le 31 b.mask with h1 | h1
    · have hf : Hid (right b = false) := by simp [Hid, right]; omega
      have d1 : decide (31 < b.mask) = true := by simpa using h1
      go_enter Tryz.func101, Tryz.ntmps101
      go_wp2
      go_ret
      exact ⟨by rw [hf.out]; rfl, by repeat (first | exact Chg.refl _ _ | apply Chg.alloc)⟩
    · have d1 : decide (31 < b.mask) = false := by simpa using h1
      go_enter Tryz.func101, Tryz.ntmps101
      go_wp2_with fail
      go_region_held3 (fun W => W.cell? ⟨w.heap.size, 0, none⟩ = some (i64 b.id.shard) ∧ W.cell? ⟨w.heap.size, 1, none⟩ = some (i64 b.id.index) ∧ W.cell? ⟨w.heap.size, 2, none⟩ = some (i64 b.id.gen) ∧ W.cell? ⟨w.heap.size, 3, none⟩ = some (i64 b.mask) ∧ W.cell? ⟨w.heap.size, 4, none⟩ = some (i64 b.x) ∧ W.cell? ⟨w.heap.size, 5, none⟩ = some (i64 b.y) ∧ W.cell? ⟨w.heap.size, 6, none⟩ = some (i64 b.vx) ∧ W.cell? ⟨w.heap.size, 7, none⟩ = some (i64 b.vy) ∧ W.cell? ⟨w.heap.size, 8, none⟩ = some (i64 b.hp) ∧ W.cell? ⟨w.heap.size, 9, none⟩ = some (i64 b.power) ∧ W.cell? ⟨w.heap.size, 10, none⟩ = some (i64 b.left)) (first | go_keep | (simp only [cells_keep hg1 (b := w.heap.size) (by first | assumption | (simp; done)) (by simp)]; go_keep) | (simp only [cells_keep ((Chg.refl [] w1).alloc _) (b := w.heap.size) (by assumption) (by simp)]; go_keep))
        ((go_at_call 102; refine (has_any b _ _).mono ?_; rintro e w1 ⟨rfl, hg1⟩; have hs1 : w.heap.size < w1.heap.size := (by have := hg1.size; first | omega | (simp at this; omega)); have hc := (show Chg [] w w1 by first | exact hc.trans hg1 | exact hc.drew.trans hg1 | exact ((Chg.refl [] w).alloc _).drew.trans hg1)))
      obtain ⟨e0, e1, e2, e3, e4, e5, e6, e7, e8, e9, e10⟩ := (by assumption : w1.cell? ⟨w.heap.size, 0, none⟩ = some (i64 b.id.shard) ∧ w1.cell? ⟨w.heap.size, 1, none⟩ = some (i64 b.id.index) ∧ w1.cell? ⟨w.heap.size, 2, none⟩ = some (i64 b.id.gen) ∧ w1.cell? ⟨w.heap.size, 3, none⟩ = some (i64 b.mask) ∧ w1.cell? ⟨w.heap.size, 4, none⟩ = some (i64 b.x) ∧ w1.cell? ⟨w.heap.size, 5, none⟩ = some (i64 b.y) ∧ w1.cell? ⟨w.heap.size, 6, none⟩ = some (i64 b.vx) ∧ w1.cell? ⟨w.heap.size, 7, none⟩ = some (i64 b.vy) ∧ w1.cell? ⟨w.heap.size, 8, none⟩ = some (i64 b.hp) ∧ w1.cell? ⟨w.heap.size, 9, none⟩ = some (i64 b.power) ∧ w1.cell? ⟨w.heap.size, 10, none⟩ = some (i64 b.left))
      clear hg1
      go_wp2_with fail
      go_region_held3 (fun W => W.cell? ⟨w.heap.size, 0, none⟩ = some (i64 b.id.shard) ∧ W.cell? ⟨w.heap.size, 1, none⟩ = some (i64 b.id.index) ∧ W.cell? ⟨w.heap.size, 2, none⟩ = some (i64 b.id.gen) ∧ W.cell? ⟨w.heap.size, 3, none⟩ = some (i64 b.mask) ∧ W.cell? ⟨w.heap.size, 4, none⟩ = some (i64 b.x) ∧ W.cell? ⟨w.heap.size, 5, none⟩ = some (i64 b.y) ∧ W.cell? ⟨w.heap.size, 6, none⟩ = some (i64 b.vx) ∧ W.cell? ⟨w.heap.size, 7, none⟩ = some (i64 b.vy) ∧ W.cell? ⟨w.heap.size, 8, none⟩ = some (i64 b.hp) ∧ W.cell? ⟨w.heap.size, 9, none⟩ = some (i64 b.power) ∧ W.cell? ⟨w.heap.size, 10, none⟩ = some (i64 b.left)) (first | go_keep | (simp only [cells_keep hg1 (b := w.heap.size) (by first | assumption | (simp; done)) (by simp)]; go_keep) | (simp only [cells_keep ((Chg.refl [] w1).alloc _) (b := w.heap.size) (by assumption) (by simp)]; go_keep))
        ((go_at_call 102; refine (has_any b _ _).mono ?_; rintro e w1 ⟨rfl, hg1⟩; have hs1 : w.heap.size < w1.heap.size := (by have := hg1.size; first | omega | (simp at this; omega)); have hc := (show Chg [] w w1 by first | exact hc.trans hg1 | exact hc.drew.trans hg1 | exact ((Chg.refl [] w).alloc _).drew.trans hg1)))
      have hB := Blk.new w1 190 #[.bool (hasP b.mask 1), i64 b.x, i64 (-1073741824), i64 (1073741824), .bool (hasP b.mask 1), i64 b.y, i64 (-1073741824), i64 (1073741824), .bool (hasP b.mask 2), i64 b.vx, i64 (-1073741824), i64 (1073741824), .bool (hasP b.mask 2), i64 b.vy, i64 (-1073741824), i64 (1073741824), .bool (hasP b.mask 4), i64 b.hp, i64 (1), i64 (1048576), .bool (hasP b.mask 8), i64 b.power, i64 (0), i64 (1024), .bool (hasP b.mask 16), i64 b.left, i64 (1), i64 (1048576)]
      have hc2 := hc.alloc (.cells #[.bool (hasP b.mask 1), i64 b.x, i64 (-1073741824), i64 (1073741824), .bool (hasP b.mask 1), i64 b.y, i64 (-1073741824), i64 (1073741824), .bool (hasP b.mask 2), i64 b.vx, i64 (-1073741824), i64 (1073741824), .bool (hasP b.mask 2), i64 b.vy, i64 (-1073741824), i64 (1073741824), .bool (hasP b.mask 4), i64 b.hp, i64 (1), i64 (1048576), .bool (hasP b.mask 8), i64 b.power, i64 (0), i64 (1024), .bool (hasP b.mask 16), i64 b.left, i64 (1), i64 (1048576)] 190)
      clear e0 e1 e2 e3 e4 e5 e6 e7 e8 e9 e10
      clear hg1
      go_wp2_with fail
      have hfin : Hid (right b = (rightL b).all id) := by
        have e0 := and_bit' h0 h1 0 (by omega) 1 rfl
        have e1 := and_bit' h0 h1 1 (by omega) 2 rfl
        have e2 := and_bit' h0 h1 2 (by omega) 4 rfl
        have e3 := and_bit' h0 h1 3 (by omega) 8 rfl
        have e4 := and_bit' h0 h1 4 (by omega) 16 rfl
        simp [Hid, right, rightL, hasP, e0, e1, e2, e3, e4, h0, h1, Bool.and_assoc]
      clear d0 d1 h0 h1 hs1
      have hc3 := hc2
      generalize w1.alloc _ = W at hB hc2 ⊢
      go_loopw [52] (fun i wr => ∃ k : Nat, k ≤ 7 ∧ i = .int .i64 k ∧ ((rightL b).take k).all id = true ∧ Blk wr w1.heap.size 190 #[.bool (hasP b.mask 1), i64 b.x, i64 (-1073741824), i64 (1073741824), .bool (hasP b.mask 1), i64 b.y, i64 (-1073741824), i64 (1073741824), .bool (hasP b.mask 2), i64 b.vx, i64 (-1073741824), i64 (1073741824), .bool (hasP b.mask 2), i64 b.vy, i64 (-1073741824), i64 (1073741824), .bool (hasP b.mask 4), i64 b.hp, i64 (1), i64 (1048576), .bool (hasP b.mask 8), i64 b.power, i64 (0), i64 (1024), .bool (hasP b.mask 16), i64 b.left, i64 (1), i64 (1048576)] ∧ Chg [] w wr) (fun i _ => 7 - (intOf i).toNat)
      case atStart => exact ⟨0, by omega, rfl, rfl, hB, hc2⟩
      case round =>
        obtain ⟨k, hk, rfl, hall, hBr, hcr⟩ := hrel
        clear hB hc2
        have hcs : k = 0 ∨ k = 1 ∨ k = 2 ∨ k = 3 ∨ k = 4 ∨ k = 5 ∨ k = 6 ∨ k = 7 := by omega
        have hltr := hBr.lt
        clear hk
        rcases hcs with rfl | rfl | rfl | rfl | rfl | rfl | rfl | rfl
        · have c0 : wr.cell? ⟨w1.heap.size, 0, none⟩ = some (.bool (hasP b.mask 1)) := hBr.cell 0
          have c1 : wr.cell? ⟨w1.heap.size, 1, none⟩ = some (i64 b.x) := hBr.cell 1
          have c2 : wr.cell? ⟨w1.heap.size, 2, none⟩ = some (i64 (-1073741824)) := hBr.cell 2
          have c3 : wr.cell? ⟨w1.heap.size, 3, none⟩ = some (i64 (1073741824)) := hBr.cell 3
          cases hw : within (hasP b.mask 1) b.x (-1073741824) 1073741824 with
          | false =>
            have hf2 : Hid (right b = false) := by rw [Hid, hfin.out]; simp [rightL, hw]
            clear hfin hall
            go_wp2_with (go_at_call 103; refine (within_any _ _ _ _ _).mono ?_; rintro e w' ⟨rfl, rfl⟩)
            go_ret
            exact ⟨by rw [hf2.out]; rfl, hcr.alloc _⟩
          | true =>
            have hall2 : ((rightL b).take 1).all id = true := by simp [rightL] at hall ⊢; simp [hw]
            have hB2 := hBr.alloc (.cells #[.bool (hasP b.mask 1), i64 b.x, i64 (-1073741824), i64 (1073741824)] 190)
            have hc4 := hcr.alloc (.cells #[.bool (hasP b.mask 1), i64 b.x, i64 (-1073741824), i64 (1073741824)] 190)
            clear hall hBr hcr
            go_wp2_with (go_at_call 103; refine (within_any _ _ _ _ _).mono ?_; rintro e w' ⟨rfl, rfl⟩)
            go_roundw
            case rel => exact ⟨1, by omega, rfl, hall2, hB2, hc4⟩
            case measure => simp [intOf]
        · have c0 : wr.cell? ⟨w1.heap.size, 4, none⟩ = some (.bool (hasP b.mask 1)) := hBr.cell 4
          have c1 : wr.cell? ⟨w1.heap.size, 5, none⟩ = some (i64 b.y) := hBr.cell 5
          have c2 : wr.cell? ⟨w1.heap.size, 6, none⟩ = some (i64 (-1073741824)) := hBr.cell 6
          have c3 : wr.cell? ⟨w1.heap.size, 7, none⟩ = some (i64 (1073741824)) := hBr.cell 7
          cases hw : within (hasP b.mask 1) b.y (-1073741824) 1073741824 with
          | false =>
            have hf2 : Hid (right b = false) := by rw [Hid, hfin.out]; simp [rightL, hw]
            clear hfin hall
            go_wp2_with (go_at_call 103; refine (within_any _ _ _ _ _).mono ?_; rintro e w' ⟨rfl, rfl⟩)
            go_ret
            exact ⟨by rw [hf2.out]; rfl, hcr.alloc _⟩
          | true =>
            have hall2 : ((rightL b).take 2).all id = true := by simp [rightL] at hall ⊢; simp [hall, hw]
            have hB2 := hBr.alloc (.cells #[.bool (hasP b.mask 1), i64 b.y, i64 (-1073741824), i64 (1073741824)] 190)
            have hc4 := hcr.alloc (.cells #[.bool (hasP b.mask 1), i64 b.y, i64 (-1073741824), i64 (1073741824)] 190)
            clear hall hBr hcr
            go_wp2_with (go_at_call 103; refine (within_any _ _ _ _ _).mono ?_; rintro e w' ⟨rfl, rfl⟩)
            go_roundw
            case rel => exact ⟨2, by omega, rfl, hall2, hB2, hc4⟩
            case measure => simp [intOf]
        · have c0 : wr.cell? ⟨w1.heap.size, 8, none⟩ = some (.bool (hasP b.mask 2)) := hBr.cell 8
          have c1 : wr.cell? ⟨w1.heap.size, 9, none⟩ = some (i64 b.vx) := hBr.cell 9
          have c2 : wr.cell? ⟨w1.heap.size, 10, none⟩ = some (i64 (-1073741824)) := hBr.cell 10
          have c3 : wr.cell? ⟨w1.heap.size, 11, none⟩ = some (i64 (1073741824)) := hBr.cell 11
          cases hw : within (hasP b.mask 2) b.vx (-1073741824) 1073741824 with
          | false =>
            have hf2 : Hid (right b = false) := by rw [Hid, hfin.out]; simp [rightL, hw]
            clear hfin hall
            go_wp2_with (go_at_call 103; refine (within_any _ _ _ _ _).mono ?_; rintro e w' ⟨rfl, rfl⟩)
            go_ret
            exact ⟨by rw [hf2.out]; rfl, hcr.alloc _⟩
          | true =>
            have hall2 : ((rightL b).take 3).all id = true := by simp [rightL] at hall ⊢; simp [hall, hw]
            have hB2 := hBr.alloc (.cells #[.bool (hasP b.mask 2), i64 b.vx, i64 (-1073741824), i64 (1073741824)] 190)
            have hc4 := hcr.alloc (.cells #[.bool (hasP b.mask 2), i64 b.vx, i64 (-1073741824), i64 (1073741824)] 190)
            clear hall hBr hcr
            go_wp2_with (go_at_call 103; refine (within_any _ _ _ _ _).mono ?_; rintro e w' ⟨rfl, rfl⟩)
            go_roundw
            case rel => exact ⟨3, by omega, rfl, hall2, hB2, hc4⟩
            case measure => simp [intOf]
        · have c0 : wr.cell? ⟨w1.heap.size, 12, none⟩ = some (.bool (hasP b.mask 2)) := hBr.cell 12
          have c1 : wr.cell? ⟨w1.heap.size, 13, none⟩ = some (i64 b.vy) := hBr.cell 13
          have c2 : wr.cell? ⟨w1.heap.size, 14, none⟩ = some (i64 (-1073741824)) := hBr.cell 14
          have c3 : wr.cell? ⟨w1.heap.size, 15, none⟩ = some (i64 (1073741824)) := hBr.cell 15
          cases hw : within (hasP b.mask 2) b.vy (-1073741824) 1073741824 with
          | false =>
            have hf2 : Hid (right b = false) := by rw [Hid, hfin.out]; simp [rightL, hw]
            clear hfin hall
            go_wp2_with (go_at_call 103; refine (within_any _ _ _ _ _).mono ?_; rintro e w' ⟨rfl, rfl⟩)
            go_ret
            exact ⟨by rw [hf2.out]; rfl, hcr.alloc _⟩
          | true =>
            have hall2 : ((rightL b).take 4).all id = true := by simp [rightL] at hall ⊢; simp [hall, hw]
            have hB2 := hBr.alloc (.cells #[.bool (hasP b.mask 2), i64 b.vy, i64 (-1073741824), i64 (1073741824)] 190)
            have hc4 := hcr.alloc (.cells #[.bool (hasP b.mask 2), i64 b.vy, i64 (-1073741824), i64 (1073741824)] 190)
            clear hall hBr hcr
            go_wp2_with (go_at_call 103; refine (within_any _ _ _ _ _).mono ?_; rintro e w' ⟨rfl, rfl⟩)
            go_roundw
            case rel => exact ⟨4, by omega, rfl, hall2, hB2, hc4⟩
            case measure => simp [intOf]
        · have c0 : wr.cell? ⟨w1.heap.size, 16, none⟩ = some (.bool (hasP b.mask 4)) := hBr.cell 16
          have c1 : wr.cell? ⟨w1.heap.size, 17, none⟩ = some (i64 b.hp) := hBr.cell 17
          have c2 : wr.cell? ⟨w1.heap.size, 18, none⟩ = some (i64 (1)) := hBr.cell 18
          have c3 : wr.cell? ⟨w1.heap.size, 19, none⟩ = some (i64 (1048576)) := hBr.cell 19
          cases hw : within (hasP b.mask 4) b.hp (1) 1048576 with
          | false =>
            have hf2 : Hid (right b = false) := by rw [Hid, hfin.out]; simp [rightL, hw]
            clear hfin hall
            go_wp2_with (go_at_call 103; refine (within_any _ _ _ _ _).mono ?_; rintro e w' ⟨rfl, rfl⟩)
            go_ret
            exact ⟨by rw [hf2.out]; rfl, hcr.alloc _⟩
          | true =>
            have hall2 : ((rightL b).take 5).all id = true := by simp [rightL] at hall ⊢; simp [hall, hw]
            have hB2 := hBr.alloc (.cells #[.bool (hasP b.mask 4), i64 b.hp, i64 (1), i64 (1048576)] 190)
            have hc4 := hcr.alloc (.cells #[.bool (hasP b.mask 4), i64 b.hp, i64 (1), i64 (1048576)] 190)
            clear hall hBr hcr
            go_wp2_with (go_at_call 103; refine (within_any _ _ _ _ _).mono ?_; rintro e w' ⟨rfl, rfl⟩)
            go_roundw
            case rel => exact ⟨5, by omega, rfl, hall2, hB2, hc4⟩
            case measure => simp [intOf]
        · have c0 : wr.cell? ⟨w1.heap.size, 20, none⟩ = some (.bool (hasP b.mask 8)) := hBr.cell 20
          have c1 : wr.cell? ⟨w1.heap.size, 21, none⟩ = some (i64 b.power) := hBr.cell 21
          have c2 : wr.cell? ⟨w1.heap.size, 22, none⟩ = some (i64 (0)) := hBr.cell 22
          have c3 : wr.cell? ⟨w1.heap.size, 23, none⟩ = some (i64 (1024)) := hBr.cell 23
          cases hw : within (hasP b.mask 8) b.power (0) 1024 with
          | false =>
            have hf2 : Hid (right b = false) := by rw [Hid, hfin.out]; simp [rightL, hw]
            clear hfin hall
            go_wp2_with (go_at_call 103; refine (within_any _ _ _ _ _).mono ?_; rintro e w' ⟨rfl, rfl⟩)
            go_ret
            exact ⟨by rw [hf2.out]; rfl, hcr.alloc _⟩
          | true =>
            have hall2 : ((rightL b).take 6).all id = true := by simp [rightL] at hall ⊢; simp [hall, hw]
            have hB2 := hBr.alloc (.cells #[.bool (hasP b.mask 8), i64 b.power, i64 (0), i64 (1024)] 190)
            have hc4 := hcr.alloc (.cells #[.bool (hasP b.mask 8), i64 b.power, i64 (0), i64 (1024)] 190)
            clear hall hBr hcr
            go_wp2_with (go_at_call 103; refine (within_any _ _ _ _ _).mono ?_; rintro e w' ⟨rfl, rfl⟩)
            go_roundw
            case rel => exact ⟨6, by omega, rfl, hall2, hB2, hc4⟩
            case measure => simp [intOf]
        · have c0 : wr.cell? ⟨w1.heap.size, 24, none⟩ = some (.bool (hasP b.mask 16)) := hBr.cell 24
          have c1 : wr.cell? ⟨w1.heap.size, 25, none⟩ = some (i64 b.left) := hBr.cell 25
          have c2 : wr.cell? ⟨w1.heap.size, 26, none⟩ = some (i64 (1)) := hBr.cell 26
          have c3 : wr.cell? ⟨w1.heap.size, 27, none⟩ = some (i64 (1048576)) := hBr.cell 27
          cases hw : within (hasP b.mask 16) b.left (1) 1048576 with
          | false =>
            have hf2 : Hid (right b = false) := by rw [Hid, hfin.out]; simp [rightL, hw]
            clear hfin hall
            go_wp2_with (go_at_call 103; refine (within_any _ _ _ _ _).mono ?_; rintro e w' ⟨rfl, rfl⟩)
            go_ret
            exact ⟨by rw [hf2.out]; rfl, hcr.alloc _⟩
          | true =>
            have hall2 : ((rightL b).take 7).all id = true := by simp [rightL] at hall ⊢; simp [hall, hw]
            have hB2 := hBr.alloc (.cells #[.bool (hasP b.mask 16), i64 b.left, i64 (1), i64 (1048576)] 190)
            have hc4 := hcr.alloc (.cells #[.bool (hasP b.mask 16), i64 b.left, i64 (1), i64 (1048576)] 190)
            clear hall hBr hcr
            go_wp2_with (go_at_call 103; refine (within_any _ _ _ _ _).mono ?_; rintro e w' ⟨rfl, rfl⟩)
            go_roundw
            case rel => exact ⟨7, by omega, rfl, hall2, hB2, hc4⟩
            case measure => simp [intOf]
        · have hf2 : Hid (right b = true) := by rw [Hid, hfin.out]; exact hall
          clear hfin hall
          go_wp2_with fail
          go_ret
          exact ⟨by rw [hf2.out]; rfl, hcr⟩
end Go.Proofs.YtofnehgjkdcmnaaGreatDoor
