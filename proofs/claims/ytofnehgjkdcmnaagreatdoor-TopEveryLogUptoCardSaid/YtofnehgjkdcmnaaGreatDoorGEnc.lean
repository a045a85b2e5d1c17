/- The walk of codec.Encode. (made by a small program) -/
import Derived.Test.YtofnehgjkdcmnaaGreatDoorGCm
import Derived.Test.YtofnehgjkdcmnaaGreatDoorGLst
namespace Go.Proofs.YtofnehgjkdcmnaaGreatDoor
open Go.RowKit Hg

theorem eList_len {α : Type} {e : α → Bytes} {m : Nat} {l : List α} (h : ∀ x ∈ l, (e x).length ≤ m) (hl : l.length ≤ 1024) : (eList e l).length ≤ 9 + 1024 * m := by
  have h0 : (octs [((l.length : Nat) : Int)]).length ≤ 1 * 9 := octs_len (by simp [I64]; omega)
  rw [octs_one] at h0
  have h1 := flat_len h l.length
  rw [List.take_length] at h1
  have h2 : l.length * m ≤ 1024 * m := Nat.mul_le_mul_right _ hl
  simp only [eList, List.length_append]
  omega

set_option maxHeartbeats 4000000 in
set_option maxRecDepth 100000 in
theorem enc_TC (m : Msg) (s1 s2 s3 : Option Addr × Nat) (w : World) (h : MsgIn w m s1 s2 s3) (hck : chkMsg m = true) (hI0 : I64 m.kind) (hI1 : I64 m.t) (hT : ofT m.kind = true) (hN : ofN m.kind = false) (hC : ofC m.kind = true) (hB : ofB m.kind = false) (hI : ofI m.kind = false) (hL : lst true m.cmds 64 chkCmd = true) :
    Calls Tryz.prog 7 #[msgV m s1 s2 s3] w (Ret (.tuple #[strV (eMsg m), .int .i64 0]) w) := by
  have hc : Hid (eMsg m = octs [m.kind] ++ octs [m.t] ++ eList eCmd m.cmds) := by simp [Hid, eMsg, hT, hN, hC, hB, hI, Hg.part, octs]
  have e0 := okArg_t
  have hm := Lib.hid h
  have c0 := Lib.hid (checkMsg_any m s1 s2 s3 w h)
  have c1 := Lib.hid (fun w' (hg : Chg [] w w') => checkMsg_any m s1 s2 s3 w' (h.new_ hg))
  rw [hck] at c1
  clear h c0 hck
  have l0 : (octs [m.kind]).length ≤ 1 * 9 := octs_len (by simpa using hI0)
  have l1 : (octs [m.t]).length ≤ 1 * 9 := octs_len (by simpa using hI1)
  have o0 := Lib.hid (fun (A : Option Addr) w (hr : Rd w 1 A 1 [i64 m.kind]) => octInt_any A 1 1 [m.kind] w hr (by simpa using hI0) (by omega))
  have o1 := Lib.hid (fun (A : Option Addr) w (hr : Rd w 1 A 1 [i64 m.t]) => octInt_any A 1 1 [m.t] w hr (by simpa using hI1) (by omega))
  have hx : ∀ x ∈ m.cmds, chkCmd x = true := by simp only [lst, Bool.and_eq_true, List.all_eq_true] at hL; exact hL.2
  have hl : m.cmds.length ≤ 1024 := by simp only [lst, Bool.and_eq_true, decide_eq_true_eq] at hL; omega
  have l2 : (eList eCmd m.cmds).length ≤ 9 + 1024 * 117 := eList_len (fun x h => eCmd_len (hx x h)) hl
  have o2 := Lib.hid (fun (w : World) (hr : Rd w 16 s1.1 m.cmds.length (m.cmds.flatMap cmdC)) => listCmd_any s1.1 m.cmds.length s1.2 m.cmds w hr rfl hl hx)
  clear hI0 hI1 hx hl hL
  generalize octs [m.kind] = S0 at o0 l0 hc
  generalize octs [m.t] = S1 at o1 l1 hc
  generalize eList eCmd m.cmds = S2 at o2 l2 hc
  have hsum1 : ¬ (9223372036854775807 < S0.length + S1.length) := by omega
  have hsum2 : ¬ (9223372036854775807 < S0.length + S1.length + S2.length) := by omega
  clear l0 l1 l2
  go_enter Tryz.func7, Tryz.ntmps7
  go_wp2_with (first
    | (go_at_call 25; refine (c1.out _ ((Chg.refl [] w).alloc _)).mono ?_; rintro e w1 ⟨rfl, hg1⟩; have k1 := cells_keep hg1 (b := w.heap.size) (by simp) (by simp); have hs1 : w.heap.size < w1.heap.size := (by have := hg1.size; simp at this; omega))
    | (go_at_call 26; refine (of_any m.kind _).mono ?_; rintro e w2 ⟨rfl, hg2⟩; have k2 := cells_keep hg2 (b := w.heap.size) (by omega) (by simp); have hs2 : w.heap.size < w2.heap.size := (by have := hg2.size; omega))
    | (go_at_call 27; refine (o0.out _ _ (rd_box _ _ (by simp) _ _)).mono ?_; rintro e w3 ⟨rfl, hg3⟩; have k3 := cells_keep hg3 (b := w.heap.size) (by simp <;> omega) (by simp); have f3 := cells_keep hg3 (b := w2.heap.size) (by simp <;> omega) (by simp); have hs3 : w2.heap.size < w3.heap.size := (by have := hg3.size; simp at this; omega); have hs3b : w.heap.size < w3.heap.size := (by omega))
    | (go_at_call 27; refine (o1.out _ _ (rd_box _ _ (by simp) _ _)).mono ?_; rintro e w4 ⟨rfl, hg4'⟩; have hgX := ((((((Chg.refl [] w).alloc _).trans hg1).trans hg2).alloc _).alloc _).trans hg3; have hg4 := (Chg.refl [] w3).alloc (.cells #[i64 m.t] 3) |>.trans hg4'; have k4 := cells_keep hg4' (b := w.heap.size) (by simp <;> omega) (by simp); have f4 := cells_keep hg4' (b := w2.heap.size) (by simp <;> omega) (by simp); have hs4 : w2.heap.size < w4.heap.size := (by have := hg4'.size; simp at this; omega); have hs4b : w.heap.size < w4.heap.size := (by omega))
    | (go_at_call 28; refine (o2.out _ (hm.out.cmds.new_ (hgX.trans hg4))).mono ?_; rintro e w5 ⟨rfl, hg5⟩; have k5 := cells_keep hg5 (b := w.heap.size) (by omega) (by simp); have f5 := cells_keep hg5 (b := w2.heap.size) (by omega) (by simp)))
  go_returns
  exact ⟨by rw [hc.out, ByteArray.mk_append_mk, ByteArray.mk_append_mk]; rfl, (hgX.trans hg4).trans hg5⟩

set_option maxHeartbeats 4000000 in
set_option maxRecDepth 100000 in
theorem enc_T (m : Msg) (s1 s2 s3 : Option Addr × Nat) (w : World) (h : MsgIn w m s1 s2 s3) (hck : chkMsg m = true) (hI0 : I64 m.kind) (hI1 : I64 m.t) (hT : ofT m.kind = true) (hN : ofN m.kind = false) (hC : ofC m.kind = false) (hB : ofB m.kind = false) (hI : ofI m.kind = false)  :
    Calls Tryz.prog 7 #[msgV m s1 s2 s3] w (Ret (.tuple #[strV (eMsg m), .int .i64 0]) w) := by
  have hc : Hid (eMsg m = octs [m.kind] ++ octs [m.t]) := by simp [Hid, eMsg, hT, hN, hC, hB, hI, Hg.part, octs]
  have e0 := okArg_t
  have hm := Lib.hid h
  have c0 := Lib.hid (checkMsg_any m s1 s2 s3 w h)
  have c1 := Lib.hid (fun w' (hg : Chg [] w w') => checkMsg_any m s1 s2 s3 w' (h.new_ hg))
  rw [hck] at c1
  clear h c0 hck
  have l0 : (octs [m.kind]).length ≤ 1 * 9 := octs_len (by simpa using hI0)
  have l1 : (octs [m.t]).length ≤ 1 * 9 := octs_len (by simpa using hI1)
  have o0 := Lib.hid (fun (A : Option Addr) w (hr : Rd w 1 A 1 [i64 m.kind]) => octInt_any A 1 1 [m.kind] w hr (by simpa using hI0) (by omega))
  have o1 := Lib.hid (fun (A : Option Addr) w (hr : Rd w 1 A 1 [i64 m.t]) => octInt_any A 1 1 [m.t] w hr (by simpa using hI1) (by omega))
  clear hI0 hI1
  generalize octs [m.kind] = S0 at o0 l0 hc
  generalize octs [m.t] = S1 at o1 l1 hc
  have hsum1 : ¬ (9223372036854775807 < S0.length + S1.length) := by omega
  clear l0 l1
  go_enter Tryz.func7, Tryz.ntmps7
  go_wp2_with (first
    | (go_at_call 25; refine (c1.out _ ((Chg.refl [] w).alloc _)).mono ?_; rintro e w1 ⟨rfl, hg1⟩; have k1 := cells_keep hg1 (b := w.heap.size) (by simp) (by simp); have hs1 : w.heap.size < w1.heap.size := (by have := hg1.size; simp at this; omega))
    | (go_at_call 26; refine (of_any m.kind _).mono ?_; rintro e w2 ⟨rfl, hg2⟩; have k2 := cells_keep hg2 (b := w.heap.size) (by omega) (by simp); have hs2 : w.heap.size < w2.heap.size := (by have := hg2.size; omega))
    | (go_at_call 27; refine (o0.out _ _ (rd_box _ _ (by simp) _ _)).mono ?_; rintro e w3 ⟨rfl, hg3⟩; have k3 := cells_keep hg3 (b := w.heap.size) (by simp <;> omega) (by simp); have f3 := cells_keep hg3 (b := w2.heap.size) (by simp <;> omega) (by simp); have hs3 : w2.heap.size < w3.heap.size := (by have := hg3.size; simp at this; omega); have hs3b : w.heap.size < w3.heap.size := (by omega))
    | (go_at_call 27; refine (o1.out _ _ (rd_box _ _ (by simp) _ _)).mono ?_; rintro e w4 ⟨rfl, hg4'⟩; have hgX := ((((((Chg.refl [] w).alloc _).trans hg1).trans hg2).alloc _).alloc _).trans hg3; have hg4 := (Chg.refl [] w3).alloc (.cells #[i64 m.t] 3) |>.trans hg4'; have k4 := cells_keep hg4' (b := w.heap.size) (by simp <;> omega) (by simp); have f4 := cells_keep hg4' (b := w2.heap.size) (by simp <;> omega) (by simp); have hs4 : w2.heap.size < w4.heap.size := (by have := hg4'.size; simp at this; omega); have hs4b : w.heap.size < w4.heap.size := (by omega)))
  go_returns
  exact ⟨by rw [hc.out, ByteArray.mk_append_mk]; rfl, hgX.trans hg4⟩

set_option maxHeartbeats 4000000 in
set_option maxRecDepth 100000 in
theorem enc_TI (m : Msg) (s1 s2 s3 : Option Addr × Nat) (w : World) (h : MsgIn w m s1 s2 s3) (hck : chkMsg m = true) (hI0 : I64 m.kind) (hI1 : I64 m.t) (hT : ofT m.kind = true) (hN : ofN m.kind = false) (hC : ofC m.kind = false) (hB : ofB m.kind = false) (hI : ofI m.kind = true) (hL : lst true m.ids 1024 chkID = true) :
    Calls Tryz.prog 7 #[msgV m s1 s2 s3] w (Ret (.tuple #[strV (eMsg m), .int .i64 0]) w) := by
  have hc : Hid (eMsg m = octs [m.kind] ++ octs [m.t] ++ eList eID m.ids) := by simp [Hid, eMsg, hT, hN, hC, hB, hI, Hg.part, octs]
  have e0 := okArg_t
  have hm := Lib.hid h
  have c0 := Lib.hid (checkMsg_any m s1 s2 s3 w h)
  have c1 := Lib.hid (fun w' (hg : Chg [] w w') => checkMsg_any m s1 s2 s3 w' (h.new_ hg))
  rw [hck] at c1
  clear h c0 hck
  have l0 : (octs [m.kind]).length ≤ 1 * 9 := octs_len (by simpa using hI0)
  have l1 : (octs [m.t]).length ≤ 1 * 9 := octs_len (by simpa using hI1)
  have o0 := Lib.hid (fun (A : Option Addr) w (hr : Rd w 1 A 1 [i64 m.kind]) => octInt_any A 1 1 [m.kind] w hr (by simpa using hI0) (by omega))
  have o1 := Lib.hid (fun (A : Option Addr) w (hr : Rd w 1 A 1 [i64 m.t]) => octInt_any A 1 1 [m.t] w hr (by simpa using hI1) (by omega))
  have hx : ∀ x ∈ m.ids, chkID x = true := by simp only [lst, Bool.and_eq_true, List.all_eq_true] at hL; exact hL.2
  have hl : m.ids.length ≤ 1024 := by simp only [lst, Bool.and_eq_true, decide_eq_true_eq] at hL; omega
  have l2 : (eList eID m.ids).length ≤ 9 + 1024 * 27 := eList_len (fun x h => eID_len (hx x h)) hl
  have o2 := Lib.hid (fun (w : World) (hr : Rd w 3 s3.1 m.ids.length (m.ids.flatMap idC)) => listID_any s3.1 m.ids.length s3.2 m.ids w hr rfl hl hx)
  clear hI0 hI1 hx hl hL
  generalize octs [m.kind] = S0 at o0 l0 hc
  generalize octs [m.t] = S1 at o1 l1 hc
  generalize eList eID m.ids = S2 at o2 l2 hc
  have hsum1 : ¬ (9223372036854775807 < S0.length + S1.length) := by omega
  have hsum2 : ¬ (9223372036854775807 < S0.length + S1.length + S2.length) := by omega
  clear l0 l1 l2
  go_enter Tryz.func7, Tryz.ntmps7
  go_wp2_with (first
    | (go_at_call 25; refine (c1.out _ ((Chg.refl [] w).alloc _)).mono ?_; rintro e w1 ⟨rfl, hg1⟩; have k1 := cells_keep hg1 (b := w.heap.size) (by simp) (by simp); have hs1 : w.heap.size < w1.heap.size := (by have := hg1.size; simp at this; omega))
    | (go_at_call 26; refine (of_any m.kind _).mono ?_; rintro e w2 ⟨rfl, hg2⟩; have k2 := cells_keep hg2 (b := w.heap.size) (by omega) (by simp); have hs2 : w.heap.size < w2.heap.size := (by have := hg2.size; omega))
    | (go_at_call 27; refine (o0.out _ _ (rd_box _ _ (by simp) _ _)).mono ?_; rintro e w3 ⟨rfl, hg3⟩; have k3 := cells_keep hg3 (b := w.heap.size) (by simp <;> omega) (by simp); have f3 := cells_keep hg3 (b := w2.heap.size) (by simp <;> omega) (by simp); have hs3 : w2.heap.size < w3.heap.size := (by have := hg3.size; simp at this; omega); have hs3b : w.heap.size < w3.heap.size := (by omega))
    | (go_at_call 27; refine (o1.out _ _ (rd_box _ _ (by simp) _ _)).mono ?_; rintro e w4 ⟨rfl, hg4'⟩; have hgX := ((((((Chg.refl [] w).alloc _).trans hg1).trans hg2).alloc _).alloc _).trans hg3; have hg4 := (Chg.refl [] w3).alloc (.cells #[i64 m.t] 3) |>.trans hg4'; have k4 := cells_keep hg4' (b := w.heap.size) (by simp <;> omega) (by simp); have f4 := cells_keep hg4' (b := w2.heap.size) (by simp <;> omega) (by simp); have hs4 : w2.heap.size < w4.heap.size := (by have := hg4'.size; simp at this; omega); have hs4b : w.heap.size < w4.heap.size := (by omega))
    | (go_at_call 32; refine (o2.out _ (hm.out.ids.new_ (hgX.trans hg4))).mono ?_; rintro e w5 ⟨rfl, hg5⟩; have k5 := cells_keep hg5 (b := w.heap.size) (by omega) (by simp); have f5 := cells_keep hg5 (b := w2.heap.size) (by omega) (by simp)))
  go_returns
  exact ⟨by rw [hc.out, ByteArray.mk_append_mk, ByteArray.mk_append_mk]; rfl, (hgX.trans hg4).trans hg5⟩

set_option maxHeartbeats 4000000 in
set_option maxRecDepth 100000 in
theorem enc_NB (m : Msg) (s1 s2 s3 : Option Addr × Nat) (w : World) (h : MsgIn w m s1 s2 s3) (hck : chkMsg m = true) (hI0 : I64 m.kind) (hI1 : I64 m.n) (hT : ofT m.kind = false) (hN : ofN m.kind = true) (hC : ofC m.kind = false) (hB : ofB m.kind = true) (hI : ofI m.kind = false) (hL : lst true m.buns 1024 chkBun = true) :
    Calls Tryz.prog 7 #[msgV m s1 s2 s3] w (Ret (.tuple #[strV (eMsg m), .int .i64 0]) w) := by
  have hc : Hid (eMsg m = octs [m.kind] ++ octs [m.n] ++ eList eBun m.buns) := by simp [Hid, eMsg, hT, hN, hC, hB, hI, Hg.part, octs]
  have e0 := okArg_t
  have hm := Lib.hid h
  have c0 := Lib.hid (checkMsg_any m s1 s2 s3 w h)
  have c1 := Lib.hid (fun w' (hg : Chg [] w w') => checkMsg_any m s1 s2 s3 w' (h.new_ hg))
  rw [hck] at c1
  clear h c0 hck
  have l0 : (octs [m.kind]).length ≤ 1 * 9 := octs_len (by simpa using hI0)
  have l1 : (octs [m.n]).length ≤ 1 * 9 := octs_len (by simpa using hI1)
  have o0 := Lib.hid (fun (A : Option Addr) w (hr : Rd w 1 A 1 [i64 m.kind]) => octInt_any A 1 1 [m.kind] w hr (by simpa using hI0) (by omega))
  have o1 := Lib.hid (fun (A : Option Addr) w (hr : Rd w 1 A 1 [i64 m.n]) => octInt_any A 1 1 [m.n] w hr (by simpa using hI1) (by omega))
  have hx : ∀ x ∈ m.buns, chkBun x = true := by simp only [lst, Bool.and_eq_true, List.all_eq_true] at hL; exact hL.2
  have hl : m.buns.length ≤ 1024 := by simp only [lst, Bool.and_eq_true, decide_eq_true_eq] at hL; omega
  have l2 : (eList eBun m.buns).length ≤ 9 + 1024 * 108 := eList_len (fun x h => eBun_len (hx x h)) hl
  have o2 := Lib.hid (fun (w : World) (hr : Rd w 11 s2.1 m.buns.length (m.buns.flatMap bunC)) => listBun_any s2.1 m.buns.length s2.2 m.buns w hr rfl hl hx)
  clear hI0 hI1 hx hl hL
  generalize octs [m.kind] = S0 at o0 l0 hc
  generalize octs [m.n] = S1 at o1 l1 hc
  generalize eList eBun m.buns = S2 at o2 l2 hc
  have hsum1 : ¬ (9223372036854775807 < S0.length + S1.length) := by omega
  have hsum2 : ¬ (9223372036854775807 < S0.length + S1.length + S2.length) := by omega
  clear l0 l1 l2
  go_enter Tryz.func7, Tryz.ntmps7
  go_wp2_with (first
    | (go_at_call 25; refine (c1.out _ ((Chg.refl [] w).alloc _)).mono ?_; rintro e w1 ⟨rfl, hg1⟩; have k1 := cells_keep hg1 (b := w.heap.size) (by simp) (by simp); have hs1 : w.heap.size < w1.heap.size := (by have := hg1.size; simp at this; omega))
    | (go_at_call 26; refine (of_any m.kind _).mono ?_; rintro e w2 ⟨rfl, hg2⟩; have k2 := cells_keep hg2 (b := w.heap.size) (by omega) (by simp); have hs2 : w.heap.size < w2.heap.size := (by have := hg2.size; omega))
    | (go_at_call 27; refine (o0.out _ _ (rd_box _ _ (by simp) _ _)).mono ?_; rintro e w3 ⟨rfl, hg3⟩; have k3 := cells_keep hg3 (b := w.heap.size) (by simp <;> omega) (by simp); have f3 := cells_keep hg3 (b := w2.heap.size) (by simp <;> omega) (by simp); have hs3 : w2.heap.size < w3.heap.size := (by have := hg3.size; simp at this; omega); have hs3b : w.heap.size < w3.heap.size := (by omega))
    | (go_at_call 27; refine (o1.out _ _ (rd_box _ _ (by simp) _ _)).mono ?_; rintro e w4 ⟨rfl, hg4'⟩; have hgX := ((((((Chg.refl [] w).alloc _).trans hg1).trans hg2).alloc _).alloc _).trans hg3; have hg4 := (Chg.refl [] w3).alloc (.cells #[i64 m.n] 3) |>.trans hg4'; have k4 := cells_keep hg4' (b := w.heap.size) (by simp <;> omega) (by simp); have f4 := cells_keep hg4' (b := w2.heap.size) (by simp <;> omega) (by simp); have hs4 : w2.heap.size < w4.heap.size := (by have := hg4'.size; simp at this; omega); have hs4b : w.heap.size < w4.heap.size := (by omega))
    | (go_at_call 30; refine (o2.out _ (hm.out.buns.new_ (hgX.trans hg4))).mono ?_; rintro e w5 ⟨rfl, hg5⟩; have k5 := cells_keep hg5 (b := w.heap.size) (by omega) (by simp); have f5 := cells_keep hg5 (b := w2.heap.size) (by omega) (by simp)))
  go_returns
  exact ⟨by rw [hc.out, ByteArray.mk_append_mk, ByteArray.mk_append_mk]; rfl, (hgX.trans hg4).trans hg5⟩

set_option maxHeartbeats 4000000 in
set_option maxRecDepth 100000 in
theorem enc_N (m : Msg) (s1 s2 s3 : Option Addr × Nat) (w : World) (h : MsgIn w m s1 s2 s3) (hck : chkMsg m = true) (hI0 : I64 m.kind) (hI1 : I64 m.n) (hT : ofT m.kind = false) (hN : ofN m.kind = true) (hC : ofC m.kind = false) (hB : ofB m.kind = false) (hI : ofI m.kind = false)  :
    Calls Tryz.prog 7 #[msgV m s1 s2 s3] w (Ret (.tuple #[strV (eMsg m), .int .i64 0]) w) := by
  have hc : Hid (eMsg m = octs [m.kind] ++ octs [m.n]) := by simp [Hid, eMsg, hT, hN, hC, hB, hI, Hg.part, octs]
  have e0 := okArg_t
  have hm := Lib.hid h
  have c0 := Lib.hid (checkMsg_any m s1 s2 s3 w h)
  have c1 := Lib.hid (fun w' (hg : Chg [] w w') => checkMsg_any m s1 s2 s3 w' (h.new_ hg))
  rw [hck] at c1
  clear h c0 hck
  have l0 : (octs [m.kind]).length ≤ 1 * 9 := octs_len (by simpa using hI0)
  have l1 : (octs [m.n]).length ≤ 1 * 9 := octs_len (by simpa using hI1)
  have o0 := Lib.hid (fun (A : Option Addr) w (hr : Rd w 1 A 1 [i64 m.kind]) => octInt_any A 1 1 [m.kind] w hr (by simpa using hI0) (by omega))
  have o1 := Lib.hid (fun (A : Option Addr) w (hr : Rd w 1 A 1 [i64 m.n]) => octInt_any A 1 1 [m.n] w hr (by simpa using hI1) (by omega))
  clear hI0 hI1
  generalize octs [m.kind] = S0 at o0 l0 hc
  generalize octs [m.n] = S1 at o1 l1 hc
  have hsum1 : ¬ (9223372036854775807 < S0.length + S1.length) := by omega
  clear l0 l1
  go_enter Tryz.func7, Tryz.ntmps7
  go_wp2_with (first
    | (go_at_call 25; refine (c1.out _ ((Chg.refl [] w).alloc _)).mono ?_; rintro e w1 ⟨rfl, hg1⟩; have k1 := cells_keep hg1 (b := w.heap.size) (by simp) (by simp); have hs1 : w.heap.size < w1.heap.size := (by have := hg1.size; simp at this; omega))
    | (go_at_call 26; refine (of_any m.kind _).mono ?_; rintro e w2 ⟨rfl, hg2⟩; have k2 := cells_keep hg2 (b := w.heap.size) (by omega) (by simp); have hs2 : w.heap.size < w2.heap.size := (by have := hg2.size; omega))
    | (go_at_call 27; refine (o0.out _ _ (rd_box _ _ (by simp) _ _)).mono ?_; rintro e w3 ⟨rfl, hg3⟩; have k3 := cells_keep hg3 (b := w.heap.size) (by simp <;> omega) (by simp); have f3 := cells_keep hg3 (b := w2.heap.size) (by simp <;> omega) (by simp); have hs3 : w2.heap.size < w3.heap.size := (by have := hg3.size; simp at this; omega); have hs3b : w.heap.size < w3.heap.size := (by omega))
    | (go_at_call 27; refine (o1.out _ _ (rd_box _ _ (by simp) _ _)).mono ?_; rintro e w4 ⟨rfl, hg4'⟩; have hgX := ((((((Chg.refl [] w).alloc _).trans hg1).trans hg2).alloc _).alloc _).trans hg3; have hg4 := (Chg.refl [] w3).alloc (.cells #[i64 m.n] 3) |>.trans hg4'; have k4 := cells_keep hg4' (b := w.heap.size) (by simp <;> omega) (by simp); have f4 := cells_keep hg4' (b := w2.heap.size) (by simp <;> omega) (by simp); have hs4 : w2.heap.size < w4.heap.size := (by have := hg4'.size; simp at this; omega); have hs4b : w.heap.size < w4.heap.size := (by omega)))
  go_returns
  exact ⟨by rw [hc.out, ByteArray.mk_append_mk]; rfl, hgX.trans hg4⟩

set_option maxHeartbeats 4000000 in
set_option maxRecDepth 100000 in
theorem enc_TB (m : Msg) (s1 s2 s3 : Option Addr × Nat) (w : World) (h : MsgIn w m s1 s2 s3) (hck : chkMsg m = true) (hI0 : I64 m.kind) (hI1 : I64 m.t) (hT : ofT m.kind = true) (hN : ofN m.kind = false) (hC : ofC m.kind = false) (hB : ofB m.kind = true) (hI : ofI m.kind = false) (hL : lst true m.buns 1024 chkBun = true) :
    Calls Tryz.prog 7 #[msgV m s1 s2 s3] w (Ret (.tuple #[strV (eMsg m), .int .i64 0]) w) := by
  have hc : Hid (eMsg m = octs [m.kind] ++ octs [m.t] ++ eList eBun m.buns) := by simp [Hid, eMsg, hT, hN, hC, hB, hI, Hg.part, octs]
  have e0 := okArg_t
  have hm := Lib.hid h
  have c0 := Lib.hid (checkMsg_any m s1 s2 s3 w h)
  have c1 := Lib.hid (fun w' (hg : Chg [] w w') => checkMsg_any m s1 s2 s3 w' (h.new_ hg))
  rw [hck] at c1
  clear h c0 hck
  have l0 : (octs [m.kind]).length ≤ 1 * 9 := octs_len (by simpa using hI0)
  have l1 : (octs [m.t]).length ≤ 1 * 9 := octs_len (by simpa using hI1)
  have o0 := Lib.hid (fun (A : Option Addr) w (hr : Rd w 1 A 1 [i64 m.kind]) => octInt_any A 1 1 [m.kind] w hr (by simpa using hI0) (by omega))
  have o1 := Lib.hid (fun (A : Option Addr) w (hr : Rd w 1 A 1 [i64 m.t]) => octInt_any A 1 1 [m.t] w hr (by simpa using hI1) (by omega))
  have hx : ∀ x ∈ m.buns, chkBun x = true := by simp only [lst, Bool.and_eq_true, List.all_eq_true] at hL; exact hL.2
  have hl : m.buns.length ≤ 1024 := by simp only [lst, Bool.and_eq_true, decide_eq_true_eq] at hL; omega
  have l2 : (eList eBun m.buns).length ≤ 9 + 1024 * 108 := eList_len (fun x h => eBun_len (hx x h)) hl
  have o2 := Lib.hid (fun (w : World) (hr : Rd w 11 s2.1 m.buns.length (m.buns.flatMap bunC)) => listBun_any s2.1 m.buns.length s2.2 m.buns w hr rfl hl hx)
  clear hI0 hI1 hx hl hL
  generalize octs [m.kind] = S0 at o0 l0 hc
  generalize octs [m.t] = S1 at o1 l1 hc
  generalize eList eBun m.buns = S2 at o2 l2 hc
  have hsum1 : ¬ (9223372036854775807 < S0.length + S1.length) := by omega
  have hsum2 : ¬ (9223372036854775807 < S0.length + S1.length + S2.length) := by omega
  clear l0 l1 l2
  go_enter Tryz.func7, Tryz.ntmps7
  go_wp2_with (first
    | (go_at_call 25; refine (c1.out _ ((Chg.refl [] w).alloc _)).mono ?_; rintro e w1 ⟨rfl, hg1⟩; have k1 := cells_keep hg1 (b := w.heap.size) (by simp) (by simp); have hs1 : w.heap.size < w1.heap.size := (by have := hg1.size; simp at this; omega))
    | (go_at_call 26; refine (of_any m.kind _).mono ?_; rintro e w2 ⟨rfl, hg2⟩; have k2 := cells_keep hg2 (b := w.heap.size) (by omega) (by simp); have hs2 : w.heap.size < w2.heap.size := (by have := hg2.size; omega))
    | (go_at_call 27; refine (o0.out _ _ (rd_box _ _ (by simp) _ _)).mono ?_; rintro e w3 ⟨rfl, hg3⟩; have k3 := cells_keep hg3 (b := w.heap.size) (by simp <;> omega) (by simp); have f3 := cells_keep hg3 (b := w2.heap.size) (by simp <;> omega) (by simp); have hs3 : w2.heap.size < w3.heap.size := (by have := hg3.size; simp at this; omega); have hs3b : w.heap.size < w3.heap.size := (by omega))
    | (go_at_call 27; refine (o1.out _ _ (rd_box _ _ (by simp) _ _)).mono ?_; rintro e w4 ⟨rfl, hg4'⟩; have hgX := ((((((Chg.refl [] w).alloc _).trans hg1).trans hg2).alloc _).alloc _).trans hg3; have hg4 := (Chg.refl [] w3).alloc (.cells #[i64 m.t] 3) |>.trans hg4'; have k4 := cells_keep hg4' (b := w.heap.size) (by simp <;> omega) (by simp); have f4 := cells_keep hg4' (b := w2.heap.size) (by simp <;> omega) (by simp); have hs4 : w2.heap.size < w4.heap.size := (by have := hg4'.size; simp at this; omega); have hs4b : w.heap.size < w4.heap.size := (by omega))
    | (go_at_call 30; refine (o2.out _ (hm.out.buns.new_ (hgX.trans hg4))).mono ?_; rintro e w5 ⟨rfl, hg5⟩; have k5 := cells_keep hg5 (b := w.heap.size) (by omega) (by simp); have f5 := cells_keep hg5 (b := w2.heap.size) (by omega) (by simp)))
  go_returns
  exact ⟨by rw [hc.out, ByteArray.mk_append_mk, ByteArray.mk_append_mk]; rfl, (hgX.trans hg4).trans hg5⟩
end Go.Proofs.YtofnehgjkdcmnaaGreatDoor
