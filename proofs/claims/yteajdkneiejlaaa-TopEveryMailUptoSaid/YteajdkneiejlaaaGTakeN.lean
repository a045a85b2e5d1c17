/- The walk of net.Take. -/
import Derived.Laws.ResultCell
import Derived.Test.YteajdkneiejlaaaGDel
import Derived.Test.YteajdkneiejlaaaGDec
namespace Go.Proofs.Yteajdkneiejlaaa
open Go.RowKit Hg

/-- a store of a packet whole -/
def setPt (w : World) (R : Nat) (v0 v1 v2 : Value) : World := (((w.setCell ⟨R, 0, none⟩ v0).setCell ⟨R, 1, none⟩ v1).setCell ⟨R, 2, none⟩ v2)
theorem setPt_chg {S : List Nat} {w0 w : World} {R : Nat} (v0 v1 v2 : Value) (h : Chg S w0 w) (hR : R ∈ S ∨ w0.heap.size ≤ R) : Chg S w0 (setPt w R v0 v1 v2) := by
  unfold setPt
  repeat (refine Chg.setCell ?_ hR _)
  exact h
theorem setPt_blk {w : World} {R : Nat} {t : TypeId} {u0 u1 u2 : Value} (v0 v1 v2 : Value) (h : Blk w R t #[u0, u1, u2]) : Blk (setPt w R v0 v1 v2) R t #[v0, v1, v2] := by
  have h : Blk _ R t #[v0, u1, u2] := h.set_ 0 v0
  have h : Blk _ R t #[v0, v1, u2] := h.set_ 1 v1
  have h : Blk _ R t #[v0, v1, v2] := h.set_ 2 v2
  exact h

set_option maxHeartbeats 2000000 in
set_option maxRecDepth 100000 in
theorem takeOut_any (N base n : Nat) (v : Value) (xs : List Value) (k : Int) (w : World) (hN : NetAt w N base n v xs) (hk : inNet k n = false) :
    Calls Try.prog 10 #[.pointer (some ⟨N, 0, none⟩), i64 k] w (Ret (.tuple #[.agg #[i64 0, i64 0, .string ⟨#[]⟩], .int .i64 6]) w) := by
  obtain ⟨hB, hown, hne⟩ := hN
  obtain ⟨B, c, rfl⟩ := own_slice hown
  have hB1 := hB.alloc (.cells #[i64 0, i64 0, .string ⟨#[]⟩] 45)
  have A1 := Lib.hid (at_any N B n c k _ (hB1.cell 1))
  rw [hk] at A1
  clear hk
  go_enter Try.func10, Try.ntmps10
  go_wp2_with (go_at_call 26; refine A1.out.mono ?_; rintro e w1 ⟨rfl, rfl⟩)
  go_returns
  exact ⟨rfl, (Chg.refl _ _).alloc _⟩

set_option maxHeartbeats 1000000 in
set_option maxRecDepth 100000 in
theorem takeN_any (N base n i : Nat) (v : Value) (xs : List Value) (a b : Int) (t : Bytes) (w : World) (hN : NetAt w N base n v xs) (hi : i < n) (hin : n ≤ 4096) (hone : ∀ v ∈ xs, v.oneCell' = true)
    (x0 : xs[i * 3]? = some (i64 a)) (x1 : xs[i * 3 + 1]? = some (i64 b)) (x2 : xs[i * 3 + 2]? = some (strV t)) :
    Calls Try.prog 10 #[.pointer (some ⟨N, 0, none⟩), i64 (i : Int)] w fun e w' => e = .returned (.tuple #[.agg #[i64 a, i64 b, strV t], .int .i64 0]) ∧
      ∃ v', NetAt w' N base (n - 1) v' (cutAt 3 i xs) ∧ Lies w v v' ∧ Chg (N :: rowOf v) w w' := by
  obtain ⟨hB, hown, hne⟩ := hN
  obtain ⟨g, c, rfl, hbg, hgl⟩ := hown.form (by omega)
  have hgN : g ≠ N := fun e => hne (by rw [e]; rfl)
  have hB1 := hB.alloc (.cells #[i64 0, i64 0, .string ⟨#[]⟩] 45)
  have A1 := Lib.hid (at_any N (some ⟨g, 0, none⟩) n c (i : Int) _ (hB1.cell 1))
  have hk : inNet (i : Int) n = true := by simp [inNet]; omega
  rw [hk] at A1
  have hgc : ∀ j, j < n * 3 → w.cell? ⟨g, j, none⟩ = xs[j]? := fun j hj => hown.cellAt j hj
  have g0 : w.cell? ⟨g, i * 3, none⟩ = some (i64 a) := (hgc _ (by omega)).trans x0
  have g1 : w.cell? ⟨g, i * 3 + 1, none⟩ = some (i64 b) := (hgc _ (by omega)).trans x1
  have g2 : w.cell? ⟨g, i * 3 + 2, none⟩ = some (strV t) := (hgc _ (by omega)).trans x2
  have c1 : w.cell? ⟨N, 1, none⟩ = some (.slice (some ⟨g, 0, none⟩) n c) := hB.cell 1
  have hNl := hB.lt
  have HO := Lib.hid (And.intro hown (And.intro hB hone))
  have D1 : Hid (∀ W : World, W.ownsRow base 45 3 (.slice (some ⟨g, 0, none⟩) n c) n xs → Calls Try.prog 27 #[.slice (some ⟨g, 0, none⟩) n c, i64 (i : Int), .int .i64 ((i : Int) + 1)] W fun e w' => e = .returned (.slice (some ⟨g, 0, none⟩) (n - 1) c) ∧
      w'.ownsRow base 45 3 (.slice (some ⟨g, 0, none⟩) (n - 1) c) (n - 1) (cutAt 3 i xs) ∧ Chg [g] W w') := by
    intro W hW
    have := delPk_any base g n c i (i + 1) xs W hW hi rfl hone
    rwa [Int.natCast_add, Int.natCast_one] at this
  clear hgc x0 x1 x2 hk hB hown hB1 hone
  go_enter Try.func10, Try.ntmps10
  go_wp2_with (first
    | (go_at_call 26; refine A1.out.mono ?_; rintro e w1 ⟨rfl, rfl⟩)
    | (go_at_call 27; refine (D1.out _ ((HO.out.1.alloc _).alloc _)).mono ?_; rintro e w2 ⟨rfl, hown2, hg2⟩;
        have hN2 := ((HO.out.2.1.alloc (.cells #[i64 0, i64 0, .string ⟨#[]⟩] 45)).alloc (.cells #[i64 a, i64 b, strV t] 45)).chg hg2 (by simpa using Ne.symm hgN);
        have q1 : w2.cell? ⟨N, 1, none⟩ = some (.slice (some ⟨g, 0, none⟩) n c) := hN2.cell 1; have f1 := hN2.frozen 1; have hP2 : Blk w2 (w.heap.size + 1) 45 #[i64 a, i64 b, strV t] := Blk.chg (by have := Blk.new (w.alloc (.cells #[i64 0, i64 0, .string ⟨#[]⟩] 45)) 45 #[i64 a, i64 b, strV t]; rw [World.size_alloc] at this; exact this) hg2 (by simp; omega); have kP := fun j => hP2.cell j; have hR2 : Blk w2 w.heap.size 45 #[i64 0, i64 0, .string ⟨#[]⟩] := ((Blk.new w _ _).alloc _).chg hg2 (by simp; omega); have kR := fun j => hR2.cell j; have fR := fun j => hR2.frozen j; have hs2 : w.heap.size + 1 < w2.heap.size := hP2.lt; have hneN : ¬ (N = w.heap.size) := (by omega); have hneN2 : ¬ (N = w.heap.size + 1) := (by omega)))
  obtain ⟨V, hV⟩ : ∃ V, V = Value.slice (some ⟨g, 0, none⟩) (n - 1) c := ⟨_, rfl⟩
  have hR3 := hR2.far (p := ⟨N, 1, none⟩) (by simp; omega) V
  have hN3 := hN2.set_ 1 V
  have hC2 : Chg (N :: [g]) w w2 := (((Chg.refl (N :: [g]) w).alloc _).alloc _).then_ hg2 (by intro q hq hm; exact List.mem_cons_of_mem _ hm)
  have hC3 : Chg (N :: [g]) w (w2.setCell ⟨N, 1, none⟩ V) := hC2.setCell (.inl (by simp)) _
  have hO3 : (w2.setCell ⟨N, 1, none⟩ V).ownsRow base 45 3 (.slice (some ⟨g, 0, none⟩) (n - 1) c) (n - 1) (cutAt 3 i xs) := own_chg hown2 ((Chg.refl [N] w2).setCell (p := ⟨N, 1, none⟩) (.inl (by simp)) _) (by intro q hq hm; simp [Value.ownBlock] at hq hm; omega)
  clear kP kR fR hR2 hN2
  rw [← hV]
  change bodyPost _ _ _ _ _ (setPt (w2.setCell ⟨N, 1, none⟩ V) w.heap.size _ _ _)
  generalize w2.setCell ⟨N, 1, none⟩ V = W at hR3 hN3 hC3 hO3 ⊢
  refine bodyPost_ret (results_cell_tmp_row rfl _ _ w.heap.size 45 #[i64 a, i64 b, strV t] (0, 0) _ rfl (setPt_blk _ _ _ hR3) Try.underlying45 rfl (by kernel_rfl)) rfl ?_
  have hS : Chg [w.heap.size] W (setPt W w.heap.size (i64 a) (i64 b) (strV t)) := setPt_chg _ _ _ (Chg.refl _ _) (.inl (by simp))
  subst hV
  exact ⟨rfl, _, ⟨Blk.chg hN3 hS (by simp; omega), own_chg hO3 hS (by intro q hq hm; simp [Value.ownBlock] at hq hm; omega), hne⟩, fun q hq => .inl hq, setPt_chg _ _ _ hC3 (.inr (Nat.le_refl _))⟩
end Go.Proofs.Yteajdkneiejlaaa
