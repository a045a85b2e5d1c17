/- The walks of session's Check, Encode and Decode, on a post that may be. -/
import Derived.Test.YteajdkneiejlaaaGTxt
import Derived.Test.YteajdkneiejlaaaGDec
namespace Go.Proofs.Yteajdkneiejlaaa
open Go.RowKit Hg

/-- a post as a value -/
abbrev pkV (a b c d : Int) (t : Bytes) : Value := .agg #[i64 a, i64 b, i64 c, i64 d, strV t]
/-- what may be -/
structure PkCan (a b c d : Int) (t : Bytes) : Prop where
  a0 : 1 ≤ a
  a1 : a ≤ 1099511627776
  b0 : 0 ≤ b
  b1 : b ≤ 1099511627776
  c0 : 0 ≤ c
  c1 : c ≤ 1099511627776
  d0 : 0 ≤ d
  d1 : d ≤ 1099511627776
  t1 : t.length ≤ 65472
  t0 : d = 0 → t = []
/-- its bytes -/
def ePk (a b c d : Int) (t : Bytes) : Bytes := octs [a, b, c, d] ++ eText t

set_option maxHeartbeats 400000 in
theorem snum_any (n : Int) (w : World) (h0 : 0 ≤ n) (h1 : n ≤ 1099511627776) : Calls Try.prog 68 #[i64 n] w (Same (.bool true) w) := by
  go_enter Try.func68, Try.ntmps68
  go_wp2
  go_ret
  exact ⟨rfl, rfl⟩

set_option maxHeartbeats 1000000 in
set_option maxRecDepth 100000 in
theorem scheck_any (a b c d : Int) (t : Bytes) (w : World) (h : PkCan a b c d t) : Calls Try.prog 42 #[pkV a b c d t] w (Ret (.int .i64 0) w) := by
  obtain ⟨a0, a1, b0, b1, c0, c1, d0, d1, t1, t0⟩ := h
  have e1 : decide (a < 1) = false := by simp; omega
  have e2 : ¬ (65472 < t.length) := by omega
  clear t1
  by_cases hd : d = 0
  · have ht := t0 hd
    subst ht
    have hd0 : (d == 0) = true := by simpa using hd
    clear t0 e2 hd
    go_enter Try.func42, Try.ntmps42
    go_wp2_with (go_at_call 68; refine (snum_any _ _ (by omega) (by omega)).mono ?_; rintro e w1 ⟨rfl, rfl⟩)
    go_ret
    exact ⟨rfl, by repeat (first | exact Chg.refl _ _ | apply Chg.alloc)⟩
  · have hd0 : (d == 0) = false := by simpa using hd
    clear t0 hd
    go_enter Try.func42, Try.ntmps42
    go_wp2_with (go_at_call 68; refine (snum_any _ _ (by omega) (by omega)).mono ?_; rintro e w1 ⟨rfl, rfl⟩)
    go_ret
    exact ⟨rfl, by repeat (first | exact Chg.refl _ _ | apply Chg.alloc)⟩

theorem rd_box4 (w : World) (g : Nat) (hg : g = w.heap.size) (t : TypeId) (u v x y : Value) : Rd (w.alloc (.cells #[u, v, x, y] t)) 1 (some ⟨g, 0, none⟩) 4 [u, v, x, y] := by
  subst hg
  refine ⟨rfl, fun _ => ⟨_, rfl, fun j z hz => ?_⟩⟩
  match j, hz with
  | 0, hz => rw [← hz]; exact (Blk.new w t #[u, v, x, y]).cell 0
  | 1, hz => rw [← hz]; exact (Blk.new w t #[u, v, x, y]).cell 1
  | 2, hz => rw [← hz]; exact (Blk.new w t #[u, v, x, y]).cell 2
  | 3, hz => rw [← hz]; exact (Blk.new w t #[u, v, x, y]).cell 3

set_option maxHeartbeats 4000000 in
set_option maxRecDepth 100000 in
theorem senc_any (a b c d : Int) (t : Bytes) (w : World) (h : PkCan a b c d t) : Calls Try.prog 21 #[pkV a b c d t] w (Ret (.tuple #[strV (ePk a b c d t), .int .i64 0]) w) := by
  have C1 := Lib.hid (fun w => scheck_any a b c d t w h)
  have hx : ∀ x ∈ [a, b, c, d], I64 x := by
    intro x hx
    have := h.a0; have := h.a1; have := h.b0; have := h.b1; have := h.c0; have := h.c1; have := h.d0; have := h.d1
    unfold I64
    simp at hx
    rcases hx with rfl | rfl | rfl | rfl <;> omega
  have o1 := Lib.hid (fun (A : Option Addr) w (hr : Rd w 1 A 4 [i64 a, i64 b, i64 c, i64 d]) => octInt_any A 4 4 [a, b, c, d] w hr hx (by omega))
  have o2 := Lib.hid (fun (A : Option Addr) w (hr : Rd w 1 A 1 [strV t]) => octText_any A t w hr (by have := h.t1; omega))
  have l1 : (octs [a, b, c, d]).length ≤ 4 * 9 := octs_len hx
  have l2 : (eText t).length ≤ 65481 := by
    have h9 : (octs [((t.length : Nat) : Int)]).length ≤ 1 * 9 := octs_len (by have := h.t1; simp [I64]; omega)
    rw [octs_one] at h9
    have := h.t1
    simp only [eText, List.length_append]; omega
  have hc : Hid (ePk a b c d t = octs [a, b, c, d] ++ eText t) := rfl
  generalize octs [a, b, c, d] = S0 at o1 l1 hc
  generalize eText t = S1 at o2 l2 hc
  have hsum : ¬ (9223372036854775807 < S0.length + S1.length) := by omega
  clear l1 l2 hx h
  go_enter Try.func21, Try.ntmps21
  go_wp2_with (go_at_call 42; refine (C1.out _).mono ?_; rintro e w1 ⟨rfl, hg1⟩; have k1 := cells_keep hg1 (b := w.heap.size) (by simp) (by simp); have hs1 : w.heap.size < w1.heap.size := (by have := hg1.size; simp at this; omega))
  have c0 : w1.cell? ⟨w.heap.size, 0, none⟩ = some (i64 a) := by rw [k1]; exact (Blk.new w _ _).cell 0
  have c1 : w1.cell? ⟨w.heap.size, 1, none⟩ = some (i64 b) := by rw [k1]; exact (Blk.new w _ _).cell 1
  have c2 : w1.cell? ⟨w.heap.size, 2, none⟩ = some (i64 c) := by rw [k1]; exact (Blk.new w _ _).cell 2
  have c3 : w1.cell? ⟨w.heap.size, 3, none⟩ = some (i64 d) := by rw [k1]; exact (Blk.new w _ _).cell 3
  have c4 : w1.cell? ⟨w.heap.size, 4, none⟩ = some (strV t) := by rw [k1]; exact (Blk.new w _ _).cell 4
  clear k1
  go_region_held3 (fun W => W.cell? ⟨w.heap.size, 0, none⟩ = some (i64 a) ∧ W.cell? ⟨w.heap.size, 1, none⟩ = some (i64 b) ∧ W.cell? ⟨w.heap.size, 2, none⟩ = some (i64 c) ∧ W.cell? ⟨w.heap.size, 3, none⟩ = some (i64 d) ∧ W.cell? ⟨w.heap.size, 4, none⟩ = some (strV t))
    (first | go_keep | (simp only [cells_keep hg2 (b := w.heap.size) (by first | assumption | (simp <;> omega)) (by simp)]; go_keep) | (simp only [cells_keep hg3 (b := w.heap.size) (by first | assumption | (simp <;> omega)) (by simp)]; go_keep))
    (first
    | (go_at_call 33; refine (o1.out _ _ (by first | exact (rd_box4 _ _ rfl _ _ _ _ _).drew | exact (rd_box4 _ _ (by simp) _ _ _ _ _).drew | exact ((rd_box4 _ _ rfl _ _ _ _ _).alloc _).drew | exact ((rd_box4 _ _ (by simp) _ _ _ _ _).alloc _).drew)).mono ?_; rintro e w2 ⟨rfl, hg2⟩; have hs2 : w.heap.size < w2.heap.size := (by have := hg2.size; simp at this; omega))
    | (go_at_call 43; refine (o2.out _ _ (by first | exact rd_box _ _ rfl _ _ | exact Rd.new_ (Rd.drew (rd_box _ _ rfl _ _)) hg2 | exact Rd.new_ (Rd.drew (rd_box _ _ (by simp) _ _)) hg2 | exact Rd.new_ (Rd.drew (Rd.alloc (rd_box _ _ rfl _ _) _)) hg2 | exact Rd.new_ (Rd.drew (Rd.alloc (rd_box _ _ (by simp) _ _) _)) hg2)).mono ?_; rintro e w3 ⟨rfl, hg3⟩))
  all_goals (
    have hcw := ((Chg.refl [] w).alloc (.cells #[i64 a, i64 b, i64 c, i64 d, strV t] 68)).trans hg1
    go_wp2_with fail
    go_returns
    exact ⟨by rw [hc.out, ByteArray.mk_append_mk]; rfl, by first | exact (((hcw.alloc _).drew.trans hg2).alloc _).trans hg3 | exact (((hcw.alloc _).alloc _).drew.trans hg2).trans hg3⟩)

end Go.Proofs.Yteajdkneiejlaaa
