/- The walk of codec.CheckMsg. (made by a small program) -/
import Derived.Test.YtofnehgjkdcmnaaGreatDoorGLst
import Derived.Test.YtofnehgjkdcmnaaGreatDoorGChk2
import Derived.Test.YtofnehgjkdcmnaaGreatDoorGOf
namespace Go.Proofs.YtofnehgjkdcmnaaGreatDoor
open Go.RowKit Hg

/-- a message as a value, its lists at these addresses with these capacities -/
abbrev msgV (m : Msg) (s1 s2 s3 : Option Addr × Nat) : Value := .agg #[i64 m.kind, i64 m.t, i64 m.n, .slice s1.1 m.cmds.length s1.2, .slice s2.1 m.buns.length s2.2, .slice s3.1 m.ids.length s3.2]
/-- its lists in memory -/
structure MsgIn (w : World) (m : Msg) (s1 s2 s3 : Option Addr × Nat) : Prop where
  cmds : Rd w 16 s1.1 m.cmds.length (m.cmds.flatMap cmdC)
  buns : Rd w 11 s2.1 m.buns.length (m.buns.flatMap bunC)
  ids : Rd w 3 s3.1 m.ids.length (m.ids.flatMap idC)
  len : m.cmds.length ≤ 4611686018427387904 ∧ m.buns.length ≤ 4611686018427387904 ∧ m.ids.length ≤ 4611686018427387904
theorem MsgIn.new_ {w w' : World} {m : Msg} {s1 s2 s3 : Option Addr × Nat} (h : MsgIn w m s1 s2 s3) (hg : Chg [] w w') : MsgIn w' m s1 s2 s3 := ⟨h.cmds.new_ hg, h.buns.new_ hg, h.ids.new_ hg, h.len⟩

set_option maxHeartbeats 2000000 in
set_option maxRecDepth 100000 in
theorem cm_0 (m : Msg) (s1 s2 s3 : Option Addr × Nat) (w : World) (h : MsgIn w m s1 s2 s3)  (h0 : ofOk m.kind = false)  : Calls Tryz.prog 25 #[msgV m s1 s2 s3] w (Ret (okArg (chkMsg m)) w) := by
  have hf : Hid (chkMsg m = false) := by simp [Hid, chkMsg, h0]
  have hm := Lib.hid h
  clear h
  go_enter Tryz.func25, Tryz.ntmps25
  go_wp2_with (first
    | (go_at_call 26; refine (of_any m.kind _).mono ?_; rintro e w1 ⟨rfl, hg1⟩; have k1 := cells_keep hg1 (b := w.heap.size) (by simp) (by simp); have hs1 : w.heap.size < w1.heap.size := (by have := hg1.size; simp at this; omega))
    | (go_at_call 59; refine (number_any _ _ _).mono ?_; rintro e w9 ⟨rfl, rfl⟩)
    | (go_at_call 60; have hgA := (((Chg.refl [] w).alloc _).trans hg1).alloc (.cells #[.bool (ofT m.kind), .bool (ofN m.kind), .bool (ofC m.kind), .bool (ofB m.kind), .bool (ofI m.kind)] 67); refine (allCmd_any _ _ _ _ 64 _ _ (hm.out.cmds.new_ hgA) rfl hm.out.len.1).mono ?_; rintro e w2 ⟨rfl, hg2⟩; have k2 := cells_keep hg2 (b := w.heap.size) (by simp; omega) (by simp); have f2 := cells_keep hg2 (b := w1.heap.size) (by simp) (by simp); have hs2 : w1.heap.size < w2.heap.size := (by have := hg2.size; simp at this; omega); have hgB := hgA.trans hg2; clear hgA)
    | (go_at_call 62; refine (allBun_any _ _ _ _ 1024 _ _ (hm.out.buns.new_ hgB) rfl hm.out.len.2.1).mono ?_; rintro e w3 ⟨rfl, hg3⟩; have k3 := cells_keep hg3 (b := w.heap.size) (by omega) (by simp); have f3 := cells_keep hg3 (b := w1.heap.size) hs2 (by simp); have hs3 : w1.heap.size < w3.heap.size := (by have := hg3.size; omega))
    | (go_at_call 64; refine (allID_any _ _ _ _ 1024 _ _ (hm.out.ids.new_ (hgB.trans hg3)) rfl hm.out.len.2.2).mono ?_; rintro e w4 ⟨rfl, hg4⟩; have k4 := cells_keep hg4 (b := w.heap.size) (by omega) (by simp); have f4 := cells_keep hg4 (b := w1.heap.size) hs3 (by simp)))

  go_ret
  refine ⟨by rw [hf.out]; rfl, ?_⟩
  first
    | exact (hgB.trans hg3).trans hg4
    | exact hgB.trans hg3
    | exact hgB
    | exact (((Chg.refl [] w).alloc _).trans hg1).alloc _

set_option maxHeartbeats 2000000 in
set_option maxRecDepth 100000 in
theorem cm_1 (m : Msg) (s1 s2 s3 : Option Addr × Nat) (w : World) (h : MsgIn w m s1 s2 s3) (h0 : ofOk m.kind = true) (h1 : num (ofT m.kind) m.t = false)  : Calls Tryz.prog 25 #[msgV m s1 s2 s3] w (Ret (okArg (chkMsg m)) w) := by
  have hf : Hid (chkMsg m = false) := by simp [Hid, chkMsg, h0, h1]
  have hm := Lib.hid h
  clear h
  go_enter Tryz.func25, Tryz.ntmps25
  go_wp2_with (first
    | (go_at_call 26; refine (of_any m.kind _).mono ?_; rintro e w1 ⟨rfl, hg1⟩; have k1 := cells_keep hg1 (b := w.heap.size) (by simp) (by simp); have hs1 : w.heap.size < w1.heap.size := (by have := hg1.size; simp at this; omega))
    | (go_at_call 59; refine (number_any _ _ _).mono ?_; rintro e w9 ⟨rfl, rfl⟩)
    | (go_at_call 60; have hgA := (((Chg.refl [] w).alloc _).trans hg1).alloc (.cells #[.bool (ofT m.kind), .bool (ofN m.kind), .bool (ofC m.kind), .bool (ofB m.kind), .bool (ofI m.kind)] 67); refine (allCmd_any _ _ _ _ 64 _ _ (hm.out.cmds.new_ hgA) rfl hm.out.len.1).mono ?_; rintro e w2 ⟨rfl, hg2⟩; have k2 := cells_keep hg2 (b := w.heap.size) (by simp; omega) (by simp); have f2 := cells_keep hg2 (b := w1.heap.size) (by simp) (by simp); have hs2 : w1.heap.size < w2.heap.size := (by have := hg2.size; simp at this; omega); have hgB := hgA.trans hg2; clear hgA)
    | (go_at_call 62; refine (allBun_any _ _ _ _ 1024 _ _ (hm.out.buns.new_ hgB) rfl hm.out.len.2.1).mono ?_; rintro e w3 ⟨rfl, hg3⟩; have k3 := cells_keep hg3 (b := w.heap.size) (by omega) (by simp); have f3 := cells_keep hg3 (b := w1.heap.size) hs2 (by simp); have hs3 : w1.heap.size < w3.heap.size := (by have := hg3.size; omega))
    | (go_at_call 64; refine (allID_any _ _ _ _ 1024 _ _ (hm.out.ids.new_ (hgB.trans hg3)) rfl hm.out.len.2.2).mono ?_; rintro e w4 ⟨rfl, hg4⟩; have k4 := cells_keep hg4 (b := w.heap.size) (by omega) (by simp); have f4 := cells_keep hg4 (b := w1.heap.size) hs3 (by simp)))

  go_ret
  refine ⟨by rw [hf.out]; rfl, ?_⟩
  first
    | exact (hgB.trans hg3).trans hg4
    | exact hgB.trans hg3
    | exact hgB
    | exact (((Chg.refl [] w).alloc _).trans hg1).alloc _

set_option maxHeartbeats 2000000 in
set_option maxRecDepth 100000 in
theorem cm_2 (m : Msg) (s1 s2 s3 : Option Addr × Nat) (w : World) (h : MsgIn w m s1 s2 s3) (h0 : ofOk m.kind = true) (h1 : num (ofT m.kind) m.t = true) (h2 : num (ofN m.kind) m.n = false)  : Calls Tryz.prog 25 #[msgV m s1 s2 s3] w (Ret (okArg (chkMsg m)) w) := by
  have hf : Hid (chkMsg m = false) := by simp [Hid, chkMsg, h0, h1, h2]
  have hm := Lib.hid h
  clear h
  go_enter Tryz.func25, Tryz.ntmps25
  go_wp2_with (first
    | (go_at_call 26; refine (of_any m.kind _).mono ?_; rintro e w1 ⟨rfl, hg1⟩; have k1 := cells_keep hg1 (b := w.heap.size) (by simp) (by simp); have hs1 : w.heap.size < w1.heap.size := (by have := hg1.size; simp at this; omega))
    | (go_at_call 59; refine (number_any _ _ _).mono ?_; rintro e w9 ⟨rfl, rfl⟩)
    | (go_at_call 60; have hgA := (((Chg.refl [] w).alloc _).trans hg1).alloc (.cells #[.bool (ofT m.kind), .bool (ofN m.kind), .bool (ofC m.kind), .bool (ofB m.kind), .bool (ofI m.kind)] 67); refine (allCmd_any _ _ _ _ 64 _ _ (hm.out.cmds.new_ hgA) rfl hm.out.len.1).mono ?_; rintro e w2 ⟨rfl, hg2⟩; have k2 := cells_keep hg2 (b := w.heap.size) (by simp; omega) (by simp); have f2 := cells_keep hg2 (b := w1.heap.size) (by simp) (by simp); have hs2 : w1.heap.size < w2.heap.size := (by have := hg2.size; simp at this; omega); have hgB := hgA.trans hg2; clear hgA)
    | (go_at_call 62; refine (allBun_any _ _ _ _ 1024 _ _ (hm.out.buns.new_ hgB) rfl hm.out.len.2.1).mono ?_; rintro e w3 ⟨rfl, hg3⟩; have k3 := cells_keep hg3 (b := w.heap.size) (by omega) (by simp); have f3 := cells_keep hg3 (b := w1.heap.size) hs2 (by simp); have hs3 : w1.heap.size < w3.heap.size := (by have := hg3.size; omega))
    | (go_at_call 64; refine (allID_any _ _ _ _ 1024 _ _ (hm.out.ids.new_ (hgB.trans hg3)) rfl hm.out.len.2.2).mono ?_; rintro e w4 ⟨rfl, hg4⟩; have k4 := cells_keep hg4 (b := w.heap.size) (by omega) (by simp); have f4 := cells_keep hg4 (b := w1.heap.size) hs3 (by simp)))

  go_ret
  refine ⟨by rw [hf.out]; rfl, ?_⟩
  first
    | exact (hgB.trans hg3).trans hg4
    | exact hgB.trans hg3
    | exact hgB
    | exact (((Chg.refl [] w).alloc _).trans hg1).alloc _

set_option maxHeartbeats 2000000 in
set_option maxRecDepth 100000 in
theorem cm_3 (m : Msg) (s1 s2 s3 : Option Addr × Nat) (w : World) (h : MsgIn w m s1 s2 s3) (h0 : ofOk m.kind = true) (h1 : num (ofT m.kind) m.t = true) (h2 : num (ofN m.kind) m.n = true) (h3 : lst (ofC m.kind) m.cmds 64 chkCmd = false)  : Calls Tryz.prog 25 #[msgV m s1 s2 s3] w (Ret (okArg (chkMsg m)) w) := by
  have hf : Hid (chkMsg m = false) := by simp [Hid, chkMsg, h0, h1, h2, h3]
  have hm := Lib.hid h
  clear h
  go_enter Tryz.func25, Tryz.ntmps25
  go_wp2_with (first
    | (go_at_call 26; refine (of_any m.kind _).mono ?_; rintro e w1 ⟨rfl, hg1⟩; have k1 := cells_keep hg1 (b := w.heap.size) (by simp) (by simp); have hs1 : w.heap.size < w1.heap.size := (by have := hg1.size; simp at this; omega))
    | (go_at_call 59; refine (number_any _ _ _).mono ?_; rintro e w9 ⟨rfl, rfl⟩)
    | (go_at_call 60; have hgA := (((Chg.refl [] w).alloc _).trans hg1).alloc (.cells #[.bool (ofT m.kind), .bool (ofN m.kind), .bool (ofC m.kind), .bool (ofB m.kind), .bool (ofI m.kind)] 67); refine (allCmd_any _ _ _ _ 64 _ _ (hm.out.cmds.new_ hgA) rfl hm.out.len.1).mono ?_; rintro e w2 ⟨rfl, hg2⟩; have k2 := cells_keep hg2 (b := w.heap.size) (by simp; omega) (by simp); have f2 := cells_keep hg2 (b := w1.heap.size) (by simp) (by simp); have hs2 : w1.heap.size < w2.heap.size := (by have := hg2.size; simp at this; omega); have hgB := hgA.trans hg2; clear hgA)
    | (go_at_call 62; refine (allBun_any _ _ _ _ 1024 _ _ (hm.out.buns.new_ hgB) rfl hm.out.len.2.1).mono ?_; rintro e w3 ⟨rfl, hg3⟩; have k3 := cells_keep hg3 (b := w.heap.size) (by omega) (by simp); have f3 := cells_keep hg3 (b := w1.heap.size) hs2 (by simp); have hs3 : w1.heap.size < w3.heap.size := (by have := hg3.size; omega))
    | (go_at_call 64; refine (allID_any _ _ _ _ 1024 _ _ (hm.out.ids.new_ (hgB.trans hg3)) rfl hm.out.len.2.2).mono ?_; rintro e w4 ⟨rfl, hg4⟩; have k4 := cells_keep hg4 (b := w.heap.size) (by omega) (by simp); have f4 := cells_keep hg4 (b := w1.heap.size) hs3 (by simp)))

  go_ret
  refine ⟨by rw [hf.out]; rfl, ?_⟩
  first
    | exact (hgB.trans hg3).trans hg4
    | exact hgB.trans hg3
    | exact hgB
    | exact (((Chg.refl [] w).alloc _).trans hg1).alloc _

set_option maxHeartbeats 2000000 in
set_option maxRecDepth 100000 in
theorem cm_4 (m : Msg) (s1 s2 s3 : Option Addr × Nat) (w : World) (h : MsgIn w m s1 s2 s3) (h0 : ofOk m.kind = true) (h1 : num (ofT m.kind) m.t = true) (h2 : num (ofN m.kind) m.n = true) (h3 : lst (ofC m.kind) m.cmds 64 chkCmd = true) (h4 : lst (ofB m.kind) m.buns 1024 chkBun = false)  : Calls Tryz.prog 25 #[msgV m s1 s2 s3] w (Ret (okArg (chkMsg m)) w) := by
  have hf : Hid (chkMsg m = false) := by simp [Hid, chkMsg, h0, h1, h2, h3, h4]
  have hm := Lib.hid h
  clear h
  go_enter Tryz.func25, Tryz.ntmps25
  go_wp2_with (first
    | (go_at_call 26; refine (of_any m.kind _).mono ?_; rintro e w1 ⟨rfl, hg1⟩; have k1 := cells_keep hg1 (b := w.heap.size) (by simp) (by simp); have hs1 : w.heap.size < w1.heap.size := (by have := hg1.size; simp at this; omega))
    | (go_at_call 59; refine (number_any _ _ _).mono ?_; rintro e w9 ⟨rfl, rfl⟩)
    | (go_at_call 60; have hgA := (((Chg.refl [] w).alloc _).trans hg1).alloc (.cells #[.bool (ofT m.kind), .bool (ofN m.kind), .bool (ofC m.kind), .bool (ofB m.kind), .bool (ofI m.kind)] 67); refine (allCmd_any _ _ _ _ 64 _ _ (hm.out.cmds.new_ hgA) rfl hm.out.len.1).mono ?_; rintro e w2 ⟨rfl, hg2⟩; have k2 := cells_keep hg2 (b := w.heap.size) (by simp; omega) (by simp); have f2 := cells_keep hg2 (b := w1.heap.size) (by simp) (by simp); have hs2 : w1.heap.size < w2.heap.size := (by have := hg2.size; simp at this; omega); have hgB := hgA.trans hg2; clear hgA)
    | (go_at_call 62; refine (allBun_any _ _ _ _ 1024 _ _ (hm.out.buns.new_ hgB) rfl hm.out.len.2.1).mono ?_; rintro e w3 ⟨rfl, hg3⟩; have k3 := cells_keep hg3 (b := w.heap.size) (by omega) (by simp); have f3 := cells_keep hg3 (b := w1.heap.size) hs2 (by simp); have hs3 : w1.heap.size < w3.heap.size := (by have := hg3.size; omega))
    | (go_at_call 64; refine (allID_any _ _ _ _ 1024 _ _ (hm.out.ids.new_ (hgB.trans hg3)) rfl hm.out.len.2.2).mono ?_; rintro e w4 ⟨rfl, hg4⟩; have k4 := cells_keep hg4 (b := w.heap.size) (by omega) (by simp); have f4 := cells_keep hg4 (b := w1.heap.size) hs3 (by simp)))

  go_ret
  refine ⟨by rw [hf.out]; rfl, ?_⟩
  first
    | exact (hgB.trans hg3).trans hg4
    | exact hgB.trans hg3
    | exact hgB
    | exact (((Chg.refl [] w).alloc _).trans hg1).alloc _

set_option maxHeartbeats 2000000 in
set_option maxRecDepth 100000 in
theorem cm_5 (m : Msg) (s1 s2 s3 : Option Addr × Nat) (w : World) (h : MsgIn w m s1 s2 s3) (h0 : ofOk m.kind = true) (h1 : num (ofT m.kind) m.t = true) (h2 : num (ofN m.kind) m.n = true) (h3 : lst (ofC m.kind) m.cmds 64 chkCmd = true) (h4 : lst (ofB m.kind) m.buns 1024 chkBun = true) (h5 : lst (ofI m.kind) m.ids 1024 chkID = false)  : Calls Tryz.prog 25 #[msgV m s1 s2 s3] w (Ret (okArg (chkMsg m)) w) := by
  have hf : Hid (chkMsg m = false) := by simp [Hid, chkMsg, h0, h1, h2, h3, h4, h5]
  have hm := Lib.hid h
  clear h
  go_enter Tryz.func25, Tryz.ntmps25
  go_wp2_with (first
    | (go_at_call 26; refine (of_any m.kind _).mono ?_; rintro e w1 ⟨rfl, hg1⟩; have k1 := cells_keep hg1 (b := w.heap.size) (by simp) (by simp); have hs1 : w.heap.size < w1.heap.size := (by have := hg1.size; simp at this; omega))
    | (go_at_call 59; refine (number_any _ _ _).mono ?_; rintro e w9 ⟨rfl, rfl⟩)
    | (go_at_call 60; have hgA := (((Chg.refl [] w).alloc _).trans hg1).alloc (.cells #[.bool (ofT m.kind), .bool (ofN m.kind), .bool (ofC m.kind), .bool (ofB m.kind), .bool (ofI m.kind)] 67); refine (allCmd_any _ _ _ _ 64 _ _ (hm.out.cmds.new_ hgA) rfl hm.out.len.1).mono ?_; rintro e w2 ⟨rfl, hg2⟩; have k2 := cells_keep hg2 (b := w.heap.size) (by simp; omega) (by simp); have f2 := cells_keep hg2 (b := w1.heap.size) (by simp) (by simp); have hs2 : w1.heap.size < w2.heap.size := (by have := hg2.size; simp at this; omega); have hgB := hgA.trans hg2; clear hgA)
    | (go_at_call 62; refine (allBun_any _ _ _ _ 1024 _ _ (hm.out.buns.new_ hgB) rfl hm.out.len.2.1).mono ?_; rintro e w3 ⟨rfl, hg3⟩; have k3 := cells_keep hg3 (b := w.heap.size) (by omega) (by simp); have f3 := cells_keep hg3 (b := w1.heap.size) hs2 (by simp); have hs3 : w1.heap.size < w3.heap.size := (by have := hg3.size; omega))
    | (go_at_call 64; refine (allID_any _ _ _ _ 1024 _ _ (hm.out.ids.new_ (hgB.trans hg3)) rfl hm.out.len.2.2).mono ?_; rintro e w4 ⟨rfl, hg4⟩; have k4 := cells_keep hg4 (b := w.heap.size) (by omega) (by simp); have f4 := cells_keep hg4 (b := w1.heap.size) hs3 (by simp)))

  go_ret
  refine ⟨by rw [hf.out]; rfl, ?_⟩
  first
    | exact (hgB.trans hg3).trans hg4
    | exact hgB.trans hg3
    | exact hgB
    | exact (((Chg.refl [] w).alloc _).trans hg1).alloc _

set_option maxHeartbeats 2000000 in
set_option maxRecDepth 100000 in
theorem cm_6 (m : Msg) (s1 s2 s3 : Option Addr × Nat) (w : World) (h : MsgIn w m s1 s2 s3) (h0 : ofOk m.kind = true) (h1 : num (ofT m.kind) m.t = true) (h2 : num (ofN m.kind) m.n = true) (h3 : lst (ofC m.kind) m.cmds 64 chkCmd = true) (h4 : lst (ofB m.kind) m.buns 1024 chkBun = true) (h5 : lst (ofI m.kind) m.ids 1024 chkID = true) (e7 : (m.kind == 7) = false) : Calls Tryz.prog 25 #[msgV m s1 s2 s3] w (Ret (okArg (chkMsg m)) w) := by
  have hf : Hid (chkMsg m = true) := by simp [Hid, chkMsg, h0, h1, h2, h3, h4, h5, e7]
  have hm := Lib.hid h
  clear h
  go_enter Tryz.func25, Tryz.ntmps25
  go_wp2_with (first
    | (go_at_call 26; refine (of_any m.kind _).mono ?_; rintro e w1 ⟨rfl, hg1⟩; have k1 := cells_keep hg1 (b := w.heap.size) (by simp) (by simp); have hs1 : w.heap.size < w1.heap.size := (by have := hg1.size; simp at this; omega))
    | (go_at_call 59; refine (number_any _ _ _).mono ?_; rintro e w9 ⟨rfl, rfl⟩)
    | (go_at_call 60; have hgA := (((Chg.refl [] w).alloc _).trans hg1).alloc (.cells #[.bool (ofT m.kind), .bool (ofN m.kind), .bool (ofC m.kind), .bool (ofB m.kind), .bool (ofI m.kind)] 67); refine (allCmd_any _ _ _ _ 64 _ _ (hm.out.cmds.new_ hgA) rfl hm.out.len.1).mono ?_; rintro e w2 ⟨rfl, hg2⟩; have k2 := cells_keep hg2 (b := w.heap.size) (by simp; omega) (by simp); have f2 := cells_keep hg2 (b := w1.heap.size) (by simp) (by simp); have hs2 : w1.heap.size < w2.heap.size := (by have := hg2.size; simp at this; omega); have hgB := hgA.trans hg2; clear hgA)
    | (go_at_call 62; refine (allBun_any _ _ _ _ 1024 _ _ (hm.out.buns.new_ hgB) rfl hm.out.len.2.1).mono ?_; rintro e w3 ⟨rfl, hg3⟩; have k3 := cells_keep hg3 (b := w.heap.size) (by omega) (by simp); have f3 := cells_keep hg3 (b := w1.heap.size) hs2 (by simp); have hs3 : w1.heap.size < w3.heap.size := (by have := hg3.size; omega))
    | (go_at_call 64; refine (allID_any _ _ _ _ 1024 _ _ (hm.out.ids.new_ (hgB.trans hg3)) rfl hm.out.len.2.2).mono ?_; rintro e w4 ⟨rfl, hg4⟩; have k4 := cells_keep hg4 (b := w.heap.size) (by omega) (by simp); have f4 := cells_keep hg4 (b := w1.heap.size) hs3 (by simp)))

  go_ret
  refine ⟨by rw [hf.out]; rfl, ?_⟩
  first
    | exact (hgB.trans hg3).trans hg4
    | exact hgB.trans hg3
    | exact hgB
    | exact (((Chg.refl [] w).alloc _).trans hg1).alloc _

set_option maxHeartbeats 2000000 in
set_option maxRecDepth 100000 in
theorem cm_7 (m : Msg) (s1 s2 s3 : Option Addr × Nat) (w : World) (h : MsgIn w m s1 s2 s3) (h0 : ofOk m.kind = true) (h1 : num (ofT m.kind) m.t = true) (h2 : num (ofN m.kind) m.n = true) (h3 : lst (ofC m.kind) m.cmds 64 chkCmd = true) (h4 : lst (ofB m.kind) m.buns 1024 chkBun = true) (h5 : lst (ofI m.kind) m.ids 1024 chkID = true) (e7 : (m.kind == 7) = true) (e1 : (m.buns.length == 1) = true) : Calls Tryz.prog 25 #[msgV m s1 s2 s3] w (Ret (okArg (chkMsg m)) w) := by
  have hf : Hid (chkMsg m = true) := by simp [Hid, chkMsg, h0, h1, h2, h3, h4, h5, e7, e1]
  have hm := Lib.hid h
  clear h
  go_enter Tryz.func25, Tryz.ntmps25
  go_wp2_with (first
    | (go_at_call 26; refine (of_any m.kind _).mono ?_; rintro e w1 ⟨rfl, hg1⟩; have k1 := cells_keep hg1 (b := w.heap.size) (by simp) (by simp); have hs1 : w.heap.size < w1.heap.size := (by have := hg1.size; simp at this; omega))
    | (go_at_call 59; refine (number_any _ _ _).mono ?_; rintro e w9 ⟨rfl, rfl⟩)
    | (go_at_call 60; have hgA := (((Chg.refl [] w).alloc _).trans hg1).alloc (.cells #[.bool (ofT m.kind), .bool (ofN m.kind), .bool (ofC m.kind), .bool (ofB m.kind), .bool (ofI m.kind)] 67); refine (allCmd_any _ _ _ _ 64 _ _ (hm.out.cmds.new_ hgA) rfl hm.out.len.1).mono ?_; rintro e w2 ⟨rfl, hg2⟩; have k2 := cells_keep hg2 (b := w.heap.size) (by simp; omega) (by simp); have f2 := cells_keep hg2 (b := w1.heap.size) (by simp) (by simp); have hs2 : w1.heap.size < w2.heap.size := (by have := hg2.size; simp at this; omega); have hgB := hgA.trans hg2; clear hgA)
    | (go_at_call 62; refine (allBun_any _ _ _ _ 1024 _ _ (hm.out.buns.new_ hgB) rfl hm.out.len.2.1).mono ?_; rintro e w3 ⟨rfl, hg3⟩; have k3 := cells_keep hg3 (b := w.heap.size) (by omega) (by simp); have f3 := cells_keep hg3 (b := w1.heap.size) hs2 (by simp); have hs3 : w1.heap.size < w3.heap.size := (by have := hg3.size; omega))
    | (go_at_call 64; refine (allID_any _ _ _ _ 1024 _ _ (hm.out.ids.new_ (hgB.trans hg3)) rfl hm.out.len.2.2).mono ?_; rintro e w4 ⟨rfl, hg4⟩; have k4 := cells_keep hg4 (b := w.heap.size) (by omega) (by simp); have f4 := cells_keep hg4 (b := w1.heap.size) hs3 (by simp)))

  go_ret
  refine ⟨by rw [hf.out]; rfl, ?_⟩
  first
    | exact (hgB.trans hg3).trans hg4
    | exact hgB.trans hg3
    | exact hgB
    | exact (((Chg.refl [] w).alloc _).trans hg1).alloc _

set_option maxHeartbeats 2000000 in
set_option maxRecDepth 100000 in
theorem cm_8 (m : Msg) (s1 s2 s3 : Option Addr × Nat) (w : World) (h : MsgIn w m s1 s2 s3) (h0 : ofOk m.kind = true) (h1 : num (ofT m.kind) m.t = true) (h2 : num (ofN m.kind) m.n = true) (h3 : lst (ofC m.kind) m.cmds 64 chkCmd = true) (h4 : lst (ofB m.kind) m.buns 1024 chkBun = true) (h5 : lst (ofI m.kind) m.ids 1024 chkID = true) (e7 : (m.kind == 7) = true) (e1 : (m.buns.length == 1) = false) : Calls Tryz.prog 25 #[msgV m s1 s2 s3] w (Ret (okArg (chkMsg m)) w) := by
  have hf : Hid (chkMsg m = false) := by simp [Hid, chkMsg, h0, h1, h2, h3, h4, h5, e7, e1]
  have hm := Lib.hid h
  clear h
  go_enter Tryz.func25, Tryz.ntmps25
  go_wp2_with (first
    | (go_at_call 26; refine (of_any m.kind _).mono ?_; rintro e w1 ⟨rfl, hg1⟩; have k1 := cells_keep hg1 (b := w.heap.size) (by simp) (by simp); have hs1 : w.heap.size < w1.heap.size := (by have := hg1.size; simp at this; omega))
    | (go_at_call 59; refine (number_any _ _ _).mono ?_; rintro e w9 ⟨rfl, rfl⟩)
    | (go_at_call 60; have hgA := (((Chg.refl [] w).alloc _).trans hg1).alloc (.cells #[.bool (ofT m.kind), .bool (ofN m.kind), .bool (ofC m.kind), .bool (ofB m.kind), .bool (ofI m.kind)] 67); refine (allCmd_any _ _ _ _ 64 _ _ (hm.out.cmds.new_ hgA) rfl hm.out.len.1).mono ?_; rintro e w2 ⟨rfl, hg2⟩; have k2 := cells_keep hg2 (b := w.heap.size) (by simp; omega) (by simp); have f2 := cells_keep hg2 (b := w1.heap.size) (by simp) (by simp); have hs2 : w1.heap.size < w2.heap.size := (by have := hg2.size; simp at this; omega); have hgB := hgA.trans hg2; clear hgA)
    | (go_at_call 62; refine (allBun_any _ _ _ _ 1024 _ _ (hm.out.buns.new_ hgB) rfl hm.out.len.2.1).mono ?_; rintro e w3 ⟨rfl, hg3⟩; have k3 := cells_keep hg3 (b := w.heap.size) (by omega) (by simp); have f3 := cells_keep hg3 (b := w1.heap.size) hs2 (by simp); have hs3 : w1.heap.size < w3.heap.size := (by have := hg3.size; omega))
    | (go_at_call 64; refine (allID_any _ _ _ _ 1024 _ _ (hm.out.ids.new_ (hgB.trans hg3)) rfl hm.out.len.2.2).mono ?_; rintro e w4 ⟨rfl, hg4⟩; have k4 := cells_keep hg4 (b := w.heap.size) (by omega) (by simp); have f4 := cells_keep hg4 (b := w1.heap.size) hs3 (by simp)))

  go_ret
  refine ⟨by rw [hf.out]; rfl, ?_⟩
  first
    | exact (hgB.trans hg3).trans hg4
    | exact hgB.trans hg3
    | exact hgB
    | exact (((Chg.refl [] w).alloc _).trans hg1).alloc _

theorem checkMsg_any (m : Msg) (s1 s2 s3 : Option Addr × Nat) (w : World) (h : MsgIn w m s1 s2 s3) : Calls Tryz.prog 25 #[msgV m s1 s2 s3] w (Ret (okArg (chkMsg m)) w) := by
  cases h0 : ofOk m.kind with
  | false => exact cm_0 m s1 s2 s3 w h h0
  | true =>
  cases h1 : num (ofT m.kind) m.t with
  | false => exact cm_1 m s1 s2 s3 w h h0 h1
  | true =>
  cases h2 : num (ofN m.kind) m.n with
  | false => exact cm_2 m s1 s2 s3 w h h0 h1 h2
  | true =>
  cases h3 : lst (ofC m.kind) m.cmds 64 chkCmd with
  | false => exact cm_3 m s1 s2 s3 w h h0 h1 h2 h3
  | true =>
  cases h4 : lst (ofB m.kind) m.buns 1024 chkBun with
  | false => exact cm_4 m s1 s2 s3 w h h0 h1 h2 h3 h4
  | true =>
  cases h5 : lst (ofI m.kind) m.ids 1024 chkID with
  | false => exact cm_5 m s1 s2 s3 w h h0 h1 h2 h3 h4 h5
  | true =>
  cases e7 : (m.kind == 7) with
  | false => exact cm_6 m s1 s2 s3 w h h0 h1 h2 h3 h4 h5 e7
  | true =>
  cases e1 : (m.buns.length == 1) with
  | false => exact cm_8 m s1 s2 s3 w h h0 h1 h2 h3 h4 h5 e7 e1
  | true => exact cm_7 m s1 s2 s3 w h h0 h1 h2 h3 h4 h5 e7 e1
end Go.Proofs.YtofnehgjkdcmnaaGreatDoor
