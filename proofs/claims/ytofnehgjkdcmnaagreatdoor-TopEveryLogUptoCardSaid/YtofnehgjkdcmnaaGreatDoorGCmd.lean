/- The walk of parts.CheckCmd. -/
import Derived.Test.YtofnehgjkdcmnaaGreatDoorGChk2
import Derived.Test.YtofnehgjkdcmnaaGreatDoorGEq
namespace Go.Proofs.YtofnehgjkdcmnaaGreatDoor
open Go.RowKit Hg

theorem neq_id0 (a : ID) (w : World) : (binOp .neq 73 (.agg #[i64 a.shard, i64 a.index, i64 a.gen]) (.agg #[.int .i64 0, .int .i64 0, .int .i64 0])).run Tryz.prog w = .ok (.bool (!(a == id0))) w := neq_id a id0 w
theorem neq_bun0 (b : Bun) (w : World) : (binOp .neq 75 (.agg #[i64 b.id.shard, i64 b.id.index, i64 b.id.gen, i64 b.mask, i64 b.x, i64 b.y, i64 b.vx, i64 b.vy, i64 b.hp, i64 b.power, i64 b.left])
    (.agg #[.int .i64 0, .int .i64 0, .int .i64 0, .int .i64 0, .int .i64 0, .int .i64 0, .int .i64 0, .int .i64 0, .int .i64 0, .int .i64 0, .int .i64 0])).run Tryz.prog w = .ok (.bool (!(b == bun0))) w := neq_bun b bun0 w

set_option maxHeartbeats 400000 in
set_option maxRecDepth 100000 in
theorem cc_0 (c : Cmd) (hk : c.kind = 1) (h0 : (c.id == id0) = false) (w : World) : Calls Tryz.prog 61 #[cmdV c] w (Ret (okArg (chkCmd c)) w) := by
  have hf : Hid (chkCmd c = false) := by unfold Hid chkCmd; rw [hk]; simp [h0]
  have hn1 := neq_id0 c.id
  have hn2 := neq_id0 c.b.id
  have hn3 := neq_bun0 c.b
  go_enter Tryz.func61, Tryz.ntmps61
  go_wp2_with (first
    | (go_at_call 65; refine (checkID_any c.id _).mono ?_; rintro e w1 ⟨rfl, hg1⟩; have k := cells_keep hg1 (b := w.heap.size) (by simp) (by simp); have hs1 : w.heap.size < w1.heap.size := (by have := hg1.size; simp at this; omega))
    | (go_at_call 100; refine (some_any _ _).mono ?_; rintro e w2 ⟨rfl, rfl⟩)
    | (go_at_call 101; refine (right_any c.b _).mono ?_; rintro e w3 ⟨rfl, hg3⟩; have k3 := cells_keep hg3 (b := w.heap.size) hs1 (by simp); have hs3 : w.heap.size < w3.heap.size := (by have := hg3.size; omega))
    | (go_at_call 63; refine (check_any c.b _).mono ?_; rintro e w4 ⟨rfl, hg4⟩))
  go_ret
  exact ⟨by rw [hf.out]; rfl, by first | exact ((Chg.refl _ _).alloc _).trans hg1 | exact (((Chg.refl _ _).alloc _).trans hg1).trans hg3 | exact (((Chg.refl _ _).alloc _).trans hg1).trans hg4⟩

set_option maxHeartbeats 400000 in
set_option maxRecDepth 100000 in
theorem cc_1 (c : Cmd) (hk : c.kind = 1) (h0 : (c.id == id0) = true) (h1 : (c.mask == 0) = false) (w : World) : Calls Tryz.prog 61 #[cmdV c] w (Ret (okArg (chkCmd c)) w) := by
  have hf : Hid (chkCmd c = false) := by unfold Hid chkCmd; rw [hk]; simp [h0, h1]
  have h1n : (c.mask != 0) = true := by rw [bne, h1]; rfl
  have hn1 := neq_id0 c.id
  have hn2 := neq_id0 c.b.id
  have hn3 := neq_bun0 c.b
  go_enter Tryz.func61, Tryz.ntmps61
  go_wp2_with (first
    | (go_at_call 65; refine (checkID_any c.id _).mono ?_; rintro e w1 ⟨rfl, hg1⟩; have k := cells_keep hg1 (b := w.heap.size) (by simp) (by simp); have hs1 : w.heap.size < w1.heap.size := (by have := hg1.size; simp at this; omega))
    | (go_at_call 100; refine (some_any _ _).mono ?_; rintro e w2 ⟨rfl, rfl⟩)
    | (go_at_call 101; refine (right_any c.b _).mono ?_; rintro e w3 ⟨rfl, hg3⟩; have k3 := cells_keep hg3 (b := w.heap.size) hs1 (by simp); have hs3 : w.heap.size < w3.heap.size := (by have := hg3.size; omega))
    | (go_at_call 63; refine (check_any c.b _).mono ?_; rintro e w4 ⟨rfl, hg4⟩))
  go_ret
  exact ⟨by rw [hf.out]; rfl, by first | exact ((Chg.refl _ _).alloc _).trans hg1 | exact (((Chg.refl _ _).alloc _).trans hg1).trans hg3 | exact (((Chg.refl _ _).alloc _).trans hg1).trans hg4⟩

set_option maxHeartbeats 400000 in
set_option maxRecDepth 100000 in
theorem cc_2 (c : Cmd) (hk : c.kind = 1) (h0 : (c.id == id0) = true) (h1 : (c.mask == 0) = true) (w : World) : Calls Tryz.prog 61 #[cmdV c] w (Ret (okArg (chkCmd c)) w) := by
  have hf : Hid (chkCmd c = chkBun c.b) := by unfold Hid chkCmd; rw [hk]; simp [h0, h1]
  have h1n : (c.mask != 0) = false := by rw [bne, h1]; rfl
  have hn1 := neq_id0 c.id
  have hn2 := neq_id0 c.b.id
  have hn3 := neq_bun0 c.b
  go_enter Tryz.func61, Tryz.ntmps61
  go_wp2_with (first
    | (go_at_call 65; refine (checkID_any c.id _).mono ?_; rintro e w1 ⟨rfl, hg1⟩; have k := cells_keep hg1 (b := w.heap.size) (by simp) (by simp); have hs1 : w.heap.size < w1.heap.size := (by have := hg1.size; simp at this; omega))
    | (go_at_call 100; refine (some_any _ _).mono ?_; rintro e w2 ⟨rfl, rfl⟩)
    | (go_at_call 101; refine (right_any c.b _).mono ?_; rintro e w3 ⟨rfl, hg3⟩; have k3 := cells_keep hg3 (b := w.heap.size) hs1 (by simp); have hs3 : w.heap.size < w3.heap.size := (by have := hg3.size; omega))
    | (go_at_call 63; refine (check_any c.b _).mono ?_; rintro e w4 ⟨rfl, hg4⟩))
  go_ret
  exact ⟨by rw [hf.out]; rfl, by first | exact ((Chg.refl _ _).alloc _).trans hg1 | exact (((Chg.refl _ _).alloc _).trans hg1).trans hg3 | exact (((Chg.refl _ _).alloc _).trans hg1).trans hg4⟩

set_option maxHeartbeats 400000 in
set_option maxRecDepth 100000 in
theorem cc_3 (c : Cmd) (hk : c.kind = 3) (h0 : (c.mask == 0) = false) (w : World) : Calls Tryz.prog 61 #[cmdV c] w (Ret (okArg (chkCmd c)) w) := by
  have hf : Hid (chkCmd c = false) := by unfold Hid chkCmd; rw [hk]; simp [h0]
  have h0n : (c.mask != 0) = true := by rw [bne, h0]; rfl
  have hn1 := neq_id0 c.id
  have hn2 := neq_id0 c.b.id
  have hn3 := neq_bun0 c.b
  go_enter Tryz.func61, Tryz.ntmps61
  go_wp2_with (first
    | (go_at_call 65; refine (checkID_any c.id _).mono ?_; rintro e w1 ⟨rfl, hg1⟩; have k := cells_keep hg1 (b := w.heap.size) (by simp) (by simp); have hs1 : w.heap.size < w1.heap.size := (by have := hg1.size; simp at this; omega))
    | (go_at_call 100; refine (some_any _ _).mono ?_; rintro e w2 ⟨rfl, rfl⟩)
    | (go_at_call 101; refine (right_any c.b _).mono ?_; rintro e w3 ⟨rfl, hg3⟩; have k3 := cells_keep hg3 (b := w.heap.size) hs1 (by simp); have hs3 : w.heap.size < w3.heap.size := (by have := hg3.size; omega))
    | (go_at_call 63; refine (check_any c.b _).mono ?_; rintro e w4 ⟨rfl, hg4⟩))
  go_ret
  exact ⟨by rw [hf.out]; rfl, by first | exact ((Chg.refl _ _).alloc _).trans hg1 | exact (((Chg.refl _ _).alloc _).trans hg1).trans hg3 | exact (((Chg.refl _ _).alloc _).trans hg1).trans hg4⟩

set_option maxHeartbeats 400000 in
set_option maxRecDepth 100000 in
theorem cc_4 (c : Cmd) (hk : c.kind = 3) (h0 : (c.mask == 0) = true) (h1 : (c.b.id == id0) = false) (w : World) : Calls Tryz.prog 61 #[cmdV c] w (Ret (okArg (chkCmd c)) w) := by
  have hf : Hid (chkCmd c = false) := by unfold Hid chkCmd; rw [hk]; simp [h0, h1]
  have h0n : (c.mask != 0) = false := by rw [bne, h0]; rfl
  have hn1 := neq_id0 c.id
  have hn2 := neq_id0 c.b.id
  have hn3 := neq_bun0 c.b
  go_enter Tryz.func61, Tryz.ntmps61
  go_wp2_with (first
    | (go_at_call 65; refine (checkID_any c.id _).mono ?_; rintro e w1 ⟨rfl, hg1⟩; have k := cells_keep hg1 (b := w.heap.size) (by simp) (by simp); have hs1 : w.heap.size < w1.heap.size := (by have := hg1.size; simp at this; omega))
    | (go_at_call 100; refine (some_any _ _).mono ?_; rintro e w2 ⟨rfl, rfl⟩)
    | (go_at_call 101; refine (right_any c.b _).mono ?_; rintro e w3 ⟨rfl, hg3⟩; have k3 := cells_keep hg3 (b := w.heap.size) hs1 (by simp); have hs3 : w.heap.size < w3.heap.size := (by have := hg3.size; omega))
    | (go_at_call 63; refine (check_any c.b _).mono ?_; rintro e w4 ⟨rfl, hg4⟩))
  go_ret
  exact ⟨by rw [hf.out]; rfl, by first | exact ((Chg.refl _ _).alloc _).trans hg1 | exact (((Chg.refl _ _).alloc _).trans hg1).trans hg3 | exact (((Chg.refl _ _).alloc _).trans hg1).trans hg4⟩

set_option maxHeartbeats 400000 in
set_option maxRecDepth 100000 in
theorem cc_5 (c : Cmd) (hk : c.kind = 3) (h0 : (c.mask == 0) = true) (h1 : (c.b.id == id0) = true) (h2 : (some' c.b.mask) = false) (w : World) : Calls Tryz.prog 61 #[cmdV c] w (Ret (okArg (chkCmd c)) w) := by
  have hf : Hid (chkCmd c = false) := by unfold Hid chkCmd; rw [hk]; simp [h0, h1, h2]
  have h0n : (c.mask != 0) = false := by rw [bne, h0]; rfl
  have hn1 := neq_id0 c.id
  have hn2 := neq_id0 c.b.id
  have hn3 := neq_bun0 c.b
  go_enter Tryz.func61, Tryz.ntmps61
  go_wp2_with (first
    | (go_at_call 65; refine (checkID_any c.id _).mono ?_; rintro e w1 ⟨rfl, hg1⟩; have k := cells_keep hg1 (b := w.heap.size) (by simp) (by simp); have hs1 : w.heap.size < w1.heap.size := (by have := hg1.size; simp at this; omega))
    | (go_at_call 100; refine (some_any _ _).mono ?_; rintro e w2 ⟨rfl, rfl⟩)
    | (go_at_call 101; refine (right_any c.b _).mono ?_; rintro e w3 ⟨rfl, hg3⟩; have k3 := cells_keep hg3 (b := w.heap.size) hs1 (by simp); have hs3 : w.heap.size < w3.heap.size := (by have := hg3.size; omega))
    | (go_at_call 63; refine (check_any c.b _).mono ?_; rintro e w4 ⟨rfl, hg4⟩))
  go_ret
  exact ⟨by rw [hf.out]; rfl, by first | exact ((Chg.refl _ _).alloc _).trans hg1 | exact (((Chg.refl _ _).alloc _).trans hg1).trans hg3 | exact (((Chg.refl _ _).alloc _).trans hg1).trans hg4⟩

set_option maxHeartbeats 400000 in
set_option maxRecDepth 100000 in
theorem cc_6 (c : Cmd) (hk : c.kind = 3) (h0 : (c.mask == 0) = true) (h1 : (c.b.id == id0) = true) (h2 : (some' c.b.mask) = true) (h3 : (right c.b) = false) (w : World) : Calls Tryz.prog 61 #[cmdV c] w (Ret (okArg (chkCmd c)) w) := by
  have hf : Hid (chkCmd c = false) := by unfold Hid chkCmd; rw [hk]; simp [h0, h1, h2, h3]
  have h0n : (c.mask != 0) = false := by rw [bne, h0]; rfl
  have hn1 := neq_id0 c.id
  have hn2 := neq_id0 c.b.id
  have hn3 := neq_bun0 c.b
  go_enter Tryz.func61, Tryz.ntmps61
  go_wp2_with (first
    | (go_at_call 65; refine (checkID_any c.id _).mono ?_; rintro e w1 ⟨rfl, hg1⟩; have k := cells_keep hg1 (b := w.heap.size) (by simp) (by simp); have hs1 : w.heap.size < w1.heap.size := (by have := hg1.size; simp at this; omega))
    | (go_at_call 100; refine (some_any _ _).mono ?_; rintro e w2 ⟨rfl, rfl⟩)
    | (go_at_call 101; refine (right_any c.b _).mono ?_; rintro e w3 ⟨rfl, hg3⟩; have k3 := cells_keep hg3 (b := w.heap.size) hs1 (by simp); have hs3 : w.heap.size < w3.heap.size := (by have := hg3.size; omega))
    | (go_at_call 63; refine (check_any c.b _).mono ?_; rintro e w4 ⟨rfl, hg4⟩))
  go_ret
  exact ⟨by rw [hf.out]; rfl, by first | exact ((Chg.refl _ _).alloc _).trans hg1 | exact (((Chg.refl _ _).alloc _).trans hg1).trans hg3 | exact (((Chg.refl _ _).alloc _).trans hg1).trans hg4⟩

set_option maxHeartbeats 400000 in
set_option maxRecDepth 100000 in
theorem cc_7 (c : Cmd) (hk : c.kind = 3) (h0 : (c.mask == 0) = true) (h1 : (c.b.id == id0) = true) (h2 : (some' c.b.mask) = true) (h3 : (right c.b) = true) (w : World) : Calls Tryz.prog 61 #[cmdV c] w (Ret (okArg (chkCmd c)) w) := by
  have hf : Hid (chkCmd c = chkID c.id) := by unfold Hid chkCmd; rw [hk]; simp [h0, h1, h2, h3]
  have h0n : (c.mask != 0) = false := by rw [bne, h0]; rfl
  have hn1 := neq_id0 c.id
  have hn2 := neq_id0 c.b.id
  have hn3 := neq_bun0 c.b
  go_enter Tryz.func61, Tryz.ntmps61
  go_wp2_with (first
    | (go_at_call 65; refine (checkID_any c.id _).mono ?_; rintro e w1 ⟨rfl, hg1⟩; have k := cells_keep hg1 (b := w.heap.size) (by simp) (by simp); have hs1 : w.heap.size < w1.heap.size := (by have := hg1.size; simp at this; omega))
    | (go_at_call 100; refine (some_any _ _).mono ?_; rintro e w2 ⟨rfl, rfl⟩)
    | (go_at_call 101; refine (right_any c.b _).mono ?_; rintro e w3 ⟨rfl, hg3⟩; have k3 := cells_keep hg3 (b := w.heap.size) hs1 (by simp); have hs3 : w.heap.size < w3.heap.size := (by have := hg3.size; omega))
    | (go_at_call 63; refine (check_any c.b _).mono ?_; rintro e w4 ⟨rfl, hg4⟩))
  go_ret
  exact ⟨by rw [hf.out]; rfl, by first | exact ((Chg.refl _ _).alloc _).trans hg1 | exact (((Chg.refl _ _).alloc _).trans hg1).trans hg3 | exact (((Chg.refl _ _).alloc _).trans hg1).trans hg4⟩

set_option maxHeartbeats 400000 in
set_option maxRecDepth 100000 in
theorem cc_8 (c : Cmd) (hk : c.kind = 4) (h0 : (some' c.mask) = false) (w : World) : Calls Tryz.prog 61 #[cmdV c] w (Ret (okArg (chkCmd c)) w) := by
  have hf : Hid (chkCmd c = false) := by unfold Hid chkCmd; rw [hk]; simp [h0]
  have hn1 := neq_id0 c.id
  have hn2 := neq_id0 c.b.id
  have hn3 := neq_bun0 c.b
  go_enter Tryz.func61, Tryz.ntmps61
  go_wp2_with (first
    | (go_at_call 65; refine (checkID_any c.id _).mono ?_; rintro e w1 ⟨rfl, hg1⟩; have k := cells_keep hg1 (b := w.heap.size) (by simp) (by simp); have hs1 : w.heap.size < w1.heap.size := (by have := hg1.size; simp at this; omega))
    | (go_at_call 100; refine (some_any _ _).mono ?_; rintro e w2 ⟨rfl, rfl⟩)
    | (go_at_call 101; refine (right_any c.b _).mono ?_; rintro e w3 ⟨rfl, hg3⟩; have k3 := cells_keep hg3 (b := w.heap.size) hs1 (by simp); have hs3 : w.heap.size < w3.heap.size := (by have := hg3.size; omega))
    | (go_at_call 63; refine (check_any c.b _).mono ?_; rintro e w4 ⟨rfl, hg4⟩))
  go_ret
  exact ⟨by rw [hf.out]; rfl, by first | exact ((Chg.refl _ _).alloc _).trans hg1 | exact (((Chg.refl _ _).alloc _).trans hg1).trans hg3 | exact (((Chg.refl _ _).alloc _).trans hg1).trans hg4⟩

set_option maxHeartbeats 400000 in
set_option maxRecDepth 100000 in
theorem cc_9 (c : Cmd) (hk : c.kind = 4) (h0 : (some' c.mask) = true) (h1 : (c.b == bun0) = false) (w : World) : Calls Tryz.prog 61 #[cmdV c] w (Ret (okArg (chkCmd c)) w) := by
  have hf : Hid (chkCmd c = false) := by unfold Hid chkCmd; rw [hk]; simp [h0, h1]
  have hn1 := neq_id0 c.id
  have hn2 := neq_id0 c.b.id
  have hn3 := neq_bun0 c.b
  go_enter Tryz.func61, Tryz.ntmps61
  go_wp2_with (first
    | (go_at_call 65; refine (checkID_any c.id _).mono ?_; rintro e w1 ⟨rfl, hg1⟩; have k := cells_keep hg1 (b := w.heap.size) (by simp) (by simp); have hs1 : w.heap.size < w1.heap.size := (by have := hg1.size; simp at this; omega))
    | (go_at_call 100; refine (some_any _ _).mono ?_; rintro e w2 ⟨rfl, rfl⟩)
    | (go_at_call 101; refine (right_any c.b _).mono ?_; rintro e w3 ⟨rfl, hg3⟩; have k3 := cells_keep hg3 (b := w.heap.size) hs1 (by simp); have hs3 : w.heap.size < w3.heap.size := (by have := hg3.size; omega))
    | (go_at_call 63; refine (check_any c.b _).mono ?_; rintro e w4 ⟨rfl, hg4⟩))
  go_ret
  exact ⟨by rw [hf.out]; rfl, by first | exact ((Chg.refl _ _).alloc _).trans hg1 | exact (((Chg.refl _ _).alloc _).trans hg1).trans hg3 | exact (((Chg.refl _ _).alloc _).trans hg1).trans hg4⟩

set_option maxHeartbeats 400000 in
set_option maxRecDepth 100000 in
theorem cc_10 (c : Cmd) (hk : c.kind = 4) (h0 : (some' c.mask) = true) (h1 : (c.b == bun0) = true) (w : World) : Calls Tryz.prog 61 #[cmdV c] w (Ret (okArg (chkCmd c)) w) := by
  have hf : Hid (chkCmd c = chkID c.id) := by unfold Hid chkCmd; rw [hk]; simp [h0, h1]
  have hn1 := neq_id0 c.id
  have hn2 := neq_id0 c.b.id
  have hn3 := neq_bun0 c.b
  go_enter Tryz.func61, Tryz.ntmps61
  go_wp2_with (first
    | (go_at_call 65; refine (checkID_any c.id _).mono ?_; rintro e w1 ⟨rfl, hg1⟩; have k := cells_keep hg1 (b := w.heap.size) (by simp) (by simp); have hs1 : w.heap.size < w1.heap.size := (by have := hg1.size; simp at this; omega))
    | (go_at_call 100; refine (some_any _ _).mono ?_; rintro e w2 ⟨rfl, rfl⟩)
    | (go_at_call 101; refine (right_any c.b _).mono ?_; rintro e w3 ⟨rfl, hg3⟩; have k3 := cells_keep hg3 (b := w.heap.size) hs1 (by simp); have hs3 : w.heap.size < w3.heap.size := (by have := hg3.size; omega))
    | (go_at_call 63; refine (check_any c.b _).mono ?_; rintro e w4 ⟨rfl, hg4⟩))
  go_ret
  exact ⟨by rw [hf.out]; rfl, by first | exact ((Chg.refl _ _).alloc _).trans hg1 | exact (((Chg.refl _ _).alloc _).trans hg1).trans hg3 | exact (((Chg.refl _ _).alloc _).trans hg1).trans hg4⟩

set_option maxHeartbeats 400000 in
set_option maxRecDepth 100000 in
theorem cc_11 (c : Cmd) (hk : c.kind = 2) (h0 : (c.mask == 0) = false) (w : World) : Calls Tryz.prog 61 #[cmdV c] w (Ret (okArg (chkCmd c)) w) := by
  have hf : Hid (chkCmd c = false) := by unfold Hid chkCmd; rw [hk]; simp [h0]
  have h0n : (c.mask != 0) = true := by rw [bne, h0]; rfl
  have hn1 := neq_id0 c.id
  have hn2 := neq_id0 c.b.id
  have hn3 := neq_bun0 c.b
  go_enter Tryz.func61, Tryz.ntmps61
  go_wp2_with (first
    | (go_at_call 65; refine (checkID_any c.id _).mono ?_; rintro e w1 ⟨rfl, hg1⟩; have k := cells_keep hg1 (b := w.heap.size) (by simp) (by simp); have hs1 : w.heap.size < w1.heap.size := (by have := hg1.size; simp at this; omega))
    | (go_at_call 100; refine (some_any _ _).mono ?_; rintro e w2 ⟨rfl, rfl⟩)
    | (go_at_call 101; refine (right_any c.b _).mono ?_; rintro e w3 ⟨rfl, hg3⟩; have k3 := cells_keep hg3 (b := w.heap.size) hs1 (by simp); have hs3 : w.heap.size < w3.heap.size := (by have := hg3.size; omega))
    | (go_at_call 63; refine (check_any c.b _).mono ?_; rintro e w4 ⟨rfl, hg4⟩))
  go_ret
  exact ⟨by rw [hf.out]; rfl, by first | exact ((Chg.refl _ _).alloc _).trans hg1 | exact (((Chg.refl _ _).alloc _).trans hg1).trans hg3 | exact (((Chg.refl _ _).alloc _).trans hg1).trans hg4⟩

set_option maxHeartbeats 400000 in
set_option maxRecDepth 100000 in
theorem cc_12 (c : Cmd) (hk : c.kind = 2) (h0 : (c.mask == 0) = true) (h1 : (c.b == bun0) = false) (w : World) : Calls Tryz.prog 61 #[cmdV c] w (Ret (okArg (chkCmd c)) w) := by
  have hf : Hid (chkCmd c = false) := by unfold Hid chkCmd; rw [hk]; simp [h0, h1]
  have h0n : (c.mask != 0) = false := by rw [bne, h0]; rfl
  have hn1 := neq_id0 c.id
  have hn2 := neq_id0 c.b.id
  have hn3 := neq_bun0 c.b
  go_enter Tryz.func61, Tryz.ntmps61
  go_wp2_with (first
    | (go_at_call 65; refine (checkID_any c.id _).mono ?_; rintro e w1 ⟨rfl, hg1⟩; have k := cells_keep hg1 (b := w.heap.size) (by simp) (by simp); have hs1 : w.heap.size < w1.heap.size := (by have := hg1.size; simp at this; omega))
    | (go_at_call 100; refine (some_any _ _).mono ?_; rintro e w2 ⟨rfl, rfl⟩)
    | (go_at_call 101; refine (right_any c.b _).mono ?_; rintro e w3 ⟨rfl, hg3⟩; have k3 := cells_keep hg3 (b := w.heap.size) hs1 (by simp); have hs3 : w.heap.size < w3.heap.size := (by have := hg3.size; omega))
    | (go_at_call 63; refine (check_any c.b _).mono ?_; rintro e w4 ⟨rfl, hg4⟩))
  go_ret
  exact ⟨by rw [hf.out]; rfl, by first | exact ((Chg.refl _ _).alloc _).trans hg1 | exact (((Chg.refl _ _).alloc _).trans hg1).trans hg3 | exact (((Chg.refl _ _).alloc _).trans hg1).trans hg4⟩

set_option maxHeartbeats 400000 in
set_option maxRecDepth 100000 in
theorem cc_13 (c : Cmd) (hk : c.kind = 2) (h0 : (c.mask == 0) = true) (h1 : (c.b == bun0) = true) (w : World) : Calls Tryz.prog 61 #[cmdV c] w (Ret (okArg (chkCmd c)) w) := by
  have hf : Hid (chkCmd c = chkID c.id) := by unfold Hid chkCmd; rw [hk]; simp [h0, h1]
  have h0n : (c.mask != 0) = false := by rw [bne, h0]; rfl
  have hn1 := neq_id0 c.id
  have hn2 := neq_id0 c.b.id
  have hn3 := neq_bun0 c.b
  go_enter Tryz.func61, Tryz.ntmps61
  go_wp2_with (first
    | (go_at_call 65; refine (checkID_any c.id _).mono ?_; rintro e w1 ⟨rfl, hg1⟩; have k := cells_keep hg1 (b := w.heap.size) (by simp) (by simp); have hs1 : w.heap.size < w1.heap.size := (by have := hg1.size; simp at this; omega))
    | (go_at_call 100; refine (some_any _ _).mono ?_; rintro e w2 ⟨rfl, rfl⟩)
    | (go_at_call 101; refine (right_any c.b _).mono ?_; rintro e w3 ⟨rfl, hg3⟩; have k3 := cells_keep hg3 (b := w.heap.size) hs1 (by simp); have hs3 : w.heap.size < w3.heap.size := (by have := hg3.size; omega))
    | (go_at_call 63; refine (check_any c.b _).mono ?_; rintro e w4 ⟨rfl, hg4⟩))
  go_ret
  exact ⟨by rw [hf.out]; rfl, by first | exact ((Chg.refl _ _).alloc _).trans hg1 | exact (((Chg.refl _ _).alloc _).trans hg1).trans hg3 | exact (((Chg.refl _ _).alloc _).trans hg1).trans hg4⟩

set_option maxHeartbeats 400000 in
set_option maxRecDepth 100000 in
theorem cc_else (c : Cmd) (h1 : (c.kind == 1) = false) (h2 : (c.kind == 3) = false) (h3 : (c.kind == 4) = false) (h4 : (c.kind == 2) = false) (w : World) : Calls Tryz.prog 61 #[cmdV c] w (Ret (okArg (chkCmd c)) w) := by
  have hf : Hid (chkCmd c = false) := by simp at h1 h2 h3 h4; simp [Hid, chkCmd, h1, h2, h3, h4]
  have hn1 := neq_id0 c.id
  have hn2 := neq_id0 c.b.id
  have hn3 := neq_bun0 c.b
  go_enter Tryz.func61, Tryz.ntmps61
  go_wp2_with (first
    | (go_at_call 65; refine (checkID_any c.id _).mono ?_; rintro e w1 ⟨rfl, hg1⟩; have k := cells_keep hg1 (b := w.heap.size) (by simp) (by simp); have hs1 : w.heap.size < w1.heap.size := (by have := hg1.size; simp at this; omega))
    | (go_at_call 100; refine (some_any _ _).mono ?_; rintro e w2 ⟨rfl, rfl⟩)
    | (go_at_call 101; refine (right_any c.b _).mono ?_; rintro e w3 ⟨rfl, hg3⟩; have k3 := cells_keep hg3 (b := w.heap.size) hs1 (by simp); have hs3 : w.heap.size < w3.heap.size := (by have := hg3.size; omega))
    | (go_at_call 63; refine (check_any c.b _).mono ?_; rintro e w4 ⟨rfl, hg4⟩))
  go_ret
  exact ⟨by rw [hf.out]; rfl, by first | exact ((Chg.refl _ _).alloc _).trans hg1 | exact (((Chg.refl _ _).alloc _).trans hg1).trans hg3 | exact (((Chg.refl _ _).alloc _).trans hg1).trans hg4⟩

theorem checkCmd_any (c : Cmd) (w : World) : Calls Tryz.prog 61 #[cmdV c] w (Ret (okArg (chkCmd c)) w) := by
  by_cases hk : c.kind = 1
  · cases g0 : (c.id == id0) with
    | false =>
      exact cc_0 c hk g0 w
    | true =>
      cases g1 : (c.mask == 0) with
      | false =>
        exact cc_1 c hk g0 g1 w
      | true =>
        exact cc_2 c hk g0 g1 w
  · have hk1 : (c.kind == 1) = false := by simpa using hk
    clear hk
    by_cases hk : c.kind = 3
    · cases g0 : (c.mask == 0) with
      | false =>
        exact cc_3 c hk g0 w
      | true =>
        cases g1 : (c.b.id == id0) with
        | false =>
          exact cc_4 c hk g0 g1 w
        | true =>
          cases g2 : (some' c.b.mask) with
          | false =>
            exact cc_5 c hk g0 g1 g2 w
          | true =>
            cases g3 : (right c.b) with
            | false =>
              exact cc_6 c hk g0 g1 g2 g3 w
            | true =>
              exact cc_7 c hk g0 g1 g2 g3 w
    · have hk3 : (c.kind == 3) = false := by simpa using hk
      clear hk
      by_cases hk : c.kind = 4
      · cases g0 : (some' c.mask) with
        | false =>
          exact cc_8 c hk g0 w
        | true =>
          cases g1 : (c.b == bun0) with
          | false =>
            exact cc_9 c hk g0 g1 w
          | true =>
            exact cc_10 c hk g0 g1 w
      · have hk4 : (c.kind == 4) = false := by simpa using hk
        clear hk
        by_cases hk : c.kind = 2
        · cases g0 : (c.mask == 0) with
          | false =>
            exact cc_11 c hk g0 w
          | true =>
            cases g1 : (c.b == bun0) with
            | false =>
              exact cc_12 c hk g0 g1 w
            | true =>
              exact cc_13 c hk g0 g1 w
        · have hk2 : (c.kind == 2) = false := by simpa using hk
          clear hk
          exact cc_else c hk1 hk3 hk4 hk2 w
end Go.Proofs.YtofnehgjkdcmnaaGreatDoor
