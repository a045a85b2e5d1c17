/- The walk of net.Double, of a packet that is there, in a net with room. -/
import Derived.Test.YteajdkneiejlaaaGTakeN
namespace Go.Proofs.Yteajdkneiejlaaa
open Go.RowKit Hg

set_option maxHeartbeats 2000000 in
set_option maxRecDepth 100000 in
theorem dbl_any (N base n i : Nat) (v : Value) (xs : List Value) (a b : Int) (t : Bytes) (w : World) (hN : NetAt w N base n v xs) (hb : base ≤ w.heap.size) (hi : i < n) (hn : n < 4096)
    (x0 : xs[i * 3]? = some (i64 a)) (x1 : xs[i * 3 + 1]? = some (i64 b)) (x2 : xs[i * 3 + 2]? = some (strV t)) :
    Calls Try.prog 11 #[.pointer (some ⟨N, 0, none⟩), i64 (i : Int)] w fun e w' => e = .returned (.int .i64 0) ∧
      ∃ v', NetAt w' N base (n + 1) v' (xs ++ [i64 a, i64 b, strV t]) ∧ Lies w v v' ∧ Chg (N :: rowOf v) w w' := by
  obtain ⟨i0, hi0, hz0, hz1, hz2⟩ := info_parts infoPk
  obtain ⟨hB, hown, hne⟩ := hN
  obtain ⟨g, c, rfl, hbg, hgl⟩ := hown.form (by omega)
  have hk : inNet (i : Int) n = true := by simp [inNet]; omega
  have c1 : w.cell? ⟨N, 1, none⟩ = some (.slice (some ⟨g, 0, none⟩) n c) := hB.cell 1
  have A1 := Lib.hid (at_any N (some ⟨g, 0, none⟩) n c (i : Int) _ c1)
  rw [hk] at A1
  have hgc : ∀ j, j < n * 3 → w.cell? ⟨g, j, none⟩ = xs[j]? := fun j hj => hown.cellAt j hj
  have g0 : w.cell? ⟨g, i * 3, none⟩ = some (i64 a) := (hgc _ (by omega)).trans x0
  have g1 : w.cell? ⟨g, i * 3 + 1, none⟩ = some (i64 b) := (hgc _ (by omega)).trans x1
  have g2 : w.cell? ⟨g, i * 3 + 2, none⟩ = some (strV t) := (hgc _ (by omega)).trans x2
  have HO := Lib.hid (And.intro hown hB)
  clear hgc x0 x1 x2 hk hown hB
  go_enter Try.func11, Try.ntmps11
  go_wp2_with (go_at_call 26; refine A1.out.mono ?_; rintro e w1 ⟨rfl, rfl⟩)
  have hBl := HO.out.2
  have hnl := hBl.lt
  go_region_law (refine step_append_own' (by rfl) (.tmp 21) (.tmp 29) 61 rfl base 45 i0 _ 3 32 Try.underlying61 hi0 hz0 hz1 hz2 rfl (by decide) (.slice (some ⟨g, 0, none⟩) n c) n xs rfl ((HO.out.1.alloc _).drew) ⟨w.heap.size, 0, none⟩ 1 1 [i64 a, i64 b, strV t] rfl rfl (World.news_of_block (w := w.alloc (.cells #[i64 a, i64 b, strV t] 45)) (Blk.new w 45 #[i64 a, i64 b, strV t])) (by simp [Value.oneCell']) (by unfold maxLen; omega) (by omega) (by show base ≤ (w.alloc _).heap.size; simp; omega) ?_; intro v2 w2 hown2 hgrow hat; obtain ⟨B2, c2, rfl⟩ := own_slice' hown2; have hB2 : Blk w2 N 63 #[i64 2, .slice (some ⟨g, 0, none⟩) n c] := ((hgrow.block N (by show N < (w.alloc _).heap.size; simp; omega) (fun e => hne e.symm)).trans (hBl.alloc (.cells #[i64 a, i64 b, strV t] 45))); have q1 : w2.cell? ⟨N, 1, none⟩ = some (.slice (some ⟨g, 0, none⟩) n c) := hB2.cell 1; have f1 := hB2.frozen 1)
  all_goals (
    have hS : Chg (rowOf (.slice (some ⟨g, 0, none⟩) n c)) (w.alloc (.cells #[i64 a, i64 b, strV t] 45)).drew w2 := Chg.of_grown hgrow (fun q e => .inl (by rw [rowOf, e]; simp))
    have hne2 : (Value.slice B2 (n + 1) c2).ownBlock ≠ some N := own_ne_blk hown2 hB2 (by decide)
    go_wp2_with fail
    go_returns
    refine ⟨rfl, .slice B2 (n + 1) c2, ⟨hB2.set_ 1 _, own_chg hown2 ((Chg.refl [N] w2).setCell (p := ⟨N, 1, none⟩) (.inl (by simp)) _) (by intro q hq hm; simp at hm; subst hm; exact hne2 hq), hne2⟩, Lies.of_at hat (by show w.heap.size ≤ (w.alloc _).heap.size; simp), ?_⟩
    exact ((((Chg.refl _ w).alloc _).drew.then_ hS (by intro i hi hm; exact List.mem_cons_of_mem _ hm))).setCell (.inl (by simp)) _)
end Go.Proofs.Yteajdkneiejlaaa
