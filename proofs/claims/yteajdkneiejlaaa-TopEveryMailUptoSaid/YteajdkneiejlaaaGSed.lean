/- The walk of session's Decode on a post that may be. -/
import Derived.Test.YteajdkneiejlaaaGSes
namespace Go.Proofs.Yteajdkneiejlaaa
open Go.RowKit Hg

/-- a store of a post whole -/
def setPk (w : World) (R : Nat) (v0 v1 v2 v3 v4 : Value) : World := (((((w.setCell ⟨R, 0, none⟩ v0).setCell ⟨R, 1, none⟩ v1).setCell ⟨R, 2, none⟩ v2).setCell ⟨R, 3, none⟩ v3).setCell ⟨R, 4, none⟩ v4)
theorem setPk_chg {S : List Nat} {w0 w : World} {R : Nat} (v0 v1 v2 v3 v4 : Value) (h : Chg S w0 w) (hR : R ∈ S ∨ w0.heap.size ≤ R) : Chg S w0 (setPk w R v0 v1 v2 v3 v4) := by
  unfold setPk
  repeat (refine Chg.setCell ?_ hR _)
  exact h
theorem setPk_blk {w : World} {R : Nat} {t : TypeId} {u0 u1 u2 u3 u4 : Value} (v0 v1 v2 v3 v4 : Value) (h : Blk w R t #[u0, u1, u2, u3, u4]) : Blk (setPk w R v0 v1 v2 v3 v4) R t #[v0, v1, v2, v3, v4] := by
  have h : Blk _ R t #[v0, u1, u2, u3, u4] := h.set_ 0 v0
  have h : Blk _ R t #[v0, v1, u2, u3, u4] := h.set_ 1 v1
  have h : Blk _ R t #[v0, v1, v2, u3, u4] := h.set_ 2 v2
  have h : Blk _ R t #[v0, v1, v2, v3, u4] := h.set_ 3 v3
  have h : Blk _ R t #[v0, v1, v2, v3, v4] := h.set_ 4 v4
  exact h

set_option maxHeartbeats 4000000 in
set_option maxRecDepth 100000 in
theorem sdec_any (a b c d : Int) (t : Bytes) (w : World) (h : PkCan a b c d t) : Calls Try.prog 23 #[strV (ePk a b c d t)] w (Ret (.tuple #[pkV a b c d t, .int .i64 0]) w) := by
  have C1 := Lib.hid (fun w => scheck_any a b c d t w h)
  have H0 : Hid (Rdr ((w.alloc (.cells #[i64 0, i64 0, i64 0, i64 0, .string ⟨#[]⟩] 68)).alloc (.cells #[strV (ePk a b c d t), .bool false] 141)) (w.heap.size + 1) (oct a ++ (oct b ++ (oct c ++ (oct d ++ eText t))))) := by
    have := Blk.new (w.alloc (.cells #[i64 0, i64 0, i64 0, i64 0, .string ⟨#[]⟩] 68)) 141 #[strV (ePk a b c d t), .bool false]
    rw [World.size_alloc] at this
    have e : oct a ++ (oct b ++ (oct c ++ (oct d ++ eText t))) = ePk a b c d t := by simp [ePk, octs]
    unfold Hid
    rw [e]
    exact this
  have hx : I64 a ∧ I64 b ∧ I64 c ∧ I64 d := by
    have := h.a0; have := h.a1; have := h.b0; have := h.b1; have := h.c0; have := h.c1; have := h.d0; have := h.d1
    unfold I64; omega
  have l9 : ∀ x, I64 x → (oct x).length ≤ 9 := fun x hx => by
    have := octs_len (xs := [x]) (by simpa using hx)
    simpa [octs] using this
  have l2 : (eText t).length ≤ 65481 := by
    have h9 := l9 (t.length : Int) (by have := h.t1; unfold I64; omega)
    have := h.t1
    simp only [eText, List.length_append]; omega
  have lb := l9 b hx.2.1
  have lc := l9 c hx.2.2.1
  have ld := l9 d hx.2.2.2
  have b3 : (eText t).length ≤ 1099511627776 := by omega
  have b2 : (oct d ++ eText t).length ≤ 1099511627776 := by rw [List.length_append]; omega
  have b1 : (oct c ++ (oct d ++ eText t)).length ≤ 1099511627776 := by rw [List.length_append, List.length_append]; omega
  have b0 : (oct b ++ (oct c ++ (oct d ++ eText t))).length ≤ 1099511627776 := by rw [List.length_append, List.length_append, List.length_append]; omega
  have HX := Lib.hid hx
  have B0 := Lib.hid b0
  have B1 := Lib.hid b1
  have B2 := Lib.hid b2
  have B3 := Lib.hid b3
  have T1 := Lib.hid (fun (w' : World) (hr : Rdr w' (w.heap.size + 1) (eText t)) => rText_any t [] (w.heap.size + 1) w' (by rw [List.append_nil]; exact hr) (by have := h.t1; omega) (by simp))
  clear h l9 l2 lb lc ld b0 b1 b2 b3 hx
  generalize ePk a b c d t = EM at H0 ⊢
  generalize eText t = S4 at *
  go_enter Try.func23, Try.ntmps23
  go_wp2_with (first
    | (go_at_call 46; refine (octOf_any EM _).mono ?_; rintro e w1 ⟨rfl, rfl⟩)
    | (go_at_call 47; refine (rInt_any a _ (w.heap.size + 1) _ HX.out.1 H0.out B0.out).mono ?_; rintro e w2 ⟨rfl, hr2, hg2⟩; have H2 := Lib.hid hr2; clear hr2)
    | (go_at_call 47; refine (rInt_any b _ (w.heap.size + 1) _ HX.out.2.1 H2.out B1.out).mono ?_; rintro e w3 ⟨rfl, hr3, hg3⟩; have H3 := Lib.hid hr3; clear hr3)
    | (go_at_call 47; refine (rInt_any c _ (w.heap.size + 1) _ HX.out.2.2.1 H3.out B2.out).mono ?_; rintro e w4 ⟨rfl, hr4, hg4⟩; have H4 := Lib.hid hr4; clear hr4)
    | (go_at_call 47; refine (rInt_any d _ (w.heap.size + 1) _ HX.out.2.2.2 H4.out B3.out).mono ?_; rintro e w5 ⟨rfl, hr5, hg5⟩; have H5 := Lib.hid hr5; clear hr5)
    | (go_at_call 48; refine (T1.out _ H5.out).mono ?_; rintro e w6 ⟨rfl, hr6, hg6⟩; have H6 := Lib.hid hr6; clear hr6;
        have hgP : Chg [(w.heap.size + 1)] ((w.alloc (.cells #[i64 0, i64 0, i64 0, i64 0, .string ⟨#[]⟩] 68)).alloc (.cells #[strV EM, .bool false] 141)) w6 := hg2.trans (hg3.trans (hg4.trans (hg5.trans hg6)));
        have hs6 : w.heap.size + 1 < w6.heap.size := (by have := hgP.size; simp at this; omega);
        have hR6 : Blk w6 w.heap.size 68 #[i64 0, i64 0, i64 0, i64 0, .string ⟨#[]⟩] := ((Blk.new w _ _).alloc _).chg hgP (by simp);
        have hC6 : Chg [] w w6 := (((Chg.refl [] w).alloc _).alloc _).then_ hgP (by intro i hi hm; simp at hm; omega))
    | (go_at_call 49; refine (rDone_nil (w.heap.size + 1) _ (Blk.alloc H6.out _)).mono ?_; rintro e w8 ⟨rfl, rfl⟩)
    | (go_at_call 42; refine (C1.out _).mono ?_; rintro e w7 ⟨rfl, hg7⟩; have hB7 : Blk w7 w6.heap.size 68 #[i64 a, i64 b, i64 c, i64 d, strV t] := (Blk.new w6 _ _).chg hg7 (by simp); have kB7 := fun j => hB7.cell j; have hR7 := (hR6.alloc (.cells #[i64 a, i64 b, i64 c, i64 d, strV t] 68)).chg hg7 (by simp); have kR7 := fun j => hR7.cell j; have fR7 := fun j => hR7.frozen j))
  have hCF : Chg [] w w7 := (hC6.alloc (.cells #[i64 a, i64 b, i64 c, i64 d, strV t] 68)).trans hg7
  clear kB7 kR7 fR7
  (try simp only [Exit.inBlock, Exit.then])
  change bodyPost _ _ _ _ _ (setPk w7 w.heap.size _ _ _ _ _)
  refine bodyPost_ret (results_cell_tmp_row rfl _ _ w.heap.size 68 #[i64 a, i64 b, i64 c, i64 d, strV t] (0, 0) _ rfl (setPk_blk _ _ _ _ _ hR7) Try.underlying68 rfl (by kernel_rfl)) rfl ?_
  exact ⟨rfl, setPk_chg _ _ _ _ _ hCF (.inr (Nat.le_refl _))⟩
end Go.Proofs.Yteajdkneiejlaaa
