/- The walk of Hear. (made by a small program) -/
import Derived.StillTailTactics
import Derived.IntWalk
import Derived.Laws.ResultCell
import Derived.Test.YteajdkneiejlaaaGPosts
import Derived.Test.YteajdkneiejlaaaGTakeN
import Derived.Test.YteajdkneiejlaaaGSed
namespace Go.Proofs.Yteajdkneiejlaaa
open Go.RowKit Hg

/-- what Hear tells -/
abbrev heardC (o : Option Msg) (a : Bool) : Array Value := #[strV (tb o), .bool o.isSome, .bool a]
/-- what Hear leaves -/
def HearR (w : World) (C base : Nat) (v : Value) (c' : Hg.Chan Msg) (o : Option Msg) (a : Bool) (e : Ending) (w' : World) : Prop :=
  e = .returned (.tuple #[.agg (heardC o a), .int .i64 0]) ∧ ∃ v', ChanAt w' C base v' c' ∧ (∀ q, q ∈ rowOf v' → q ∈ rowOf v) ∧ Chg [C] w w'
/-- in the midst of Hear: the post, the result, h and the end -/
structure HearAt (w W : World) (C : Nat) (Q R H Ch : Array Value) : Prop where
  q : Blk W w.heap.size 68 Q
  r : Blk W (w.heap.size + 1) 74 R
  h : Blk W (w.heap.size + 1 + 1) 74 H
  c : Blk W C 83 Ch
  g : Chg [C] w W
theorem HearAt.drewN {w W : World} {C : Nat} {Q R H Ch : Array Value} (a : HearAt w W C Q R H Ch) (n : Nat) : HearAt w (W.drewN n) C Q R H Ch := ⟨a.q, a.r, a.h, a.c, a.g.drewN n⟩
theorem HearAt.drew {w W : World} {C : Nat} {Q R H Ch : Array Value} (a : HearAt w W C Q R H Ch) : HearAt w W.drew C Q R H Ch := ⟨a.q, a.r, a.h, a.c, a.g.drew⟩
theorem HearAt.setC {w W : World} {C : Nat} {Q R H Ch : Array Value} (a : HearAt w W C Q R H Ch) (hlt : C < w.heap.size) (i : Nat) (u : Value) : HearAt w (W.setCell ⟨C, i, none⟩ u) C Q R H (Ch.setIfInBounds i u) :=
  ⟨a.q.far (by simp; omega) u, a.r.far (by simp; omega) u, a.h.far (by simp; omega) u, a.c.set_ i u, a.g.setCell (.inl (by simp)) u⟩
theorem HearAt.setH {w W : World} {C : Nat} {Q R H Ch : Array Value} (a : HearAt w W C Q R H Ch) (hlt : C < w.heap.size) (i : Nat) (u : Value) : HearAt w (W.setCell ⟨w.heap.size + 1 + 1, i, none⟩ u) C Q R (H.setIfInBounds i u) Ch :=
  ⟨a.q.far (by simp; omega) u, a.r.far (by simp) u, a.h.set_ i u, a.c.far (by simp; omega) u, a.g.setCell (.inr (by simp; omega)) u⟩
theorem hear_start {w w1 : World} {C : Nat} {Q Z Ch : Array Value} (hC : Blk w C 83 Ch) (hg : Chg [] (((w.alloc (.cells Q 68)).alloc (.cells Z 74)).alloc (.cells Z 74)) w1) : HearAt w w1 C Q Z Z Ch := by
  have e1 : w.heap.size + 1 = (w.alloc (.cells Q 68)).heap.size := by simp
  have e2 : w.heap.size + 1 + 1 = ((w.alloc (.cells Q 68)).alloc (.cells Z 74)).heap.size := by simp
  refine ⟨(((Blk.new w _ _).alloc _).alloc _).chg hg (by simp), ?_, ?_, (((hC.alloc _).alloc _).alloc _).chg hg (by simp), ?_⟩
  · rw [e1]; exact ((Blk.new _ _ _).alloc _).chg hg (by simp)
  · rw [e2]; exact (Blk.new _ _ _).chg hg (by simp)
  · exact (((((Chg.refl [] w).alloc _).alloc _).alloc _).trans hg).mono (by simp)
theorem hear_close {w W : World} {C base : Nat} {v v' : Value} {c' : Hg.Chan Msg} {o : Option Msg} {a : Bool} {Q H : Array Value} {u0 u1 u2 : Value} (HA : HearAt w W C Q #[u0, u1, u2] H (chanC c' v')) (hlt : C < w.heap.size) (hw : WaitAt w base v' c'.wait.length (txtL c'.wait)) (hne : C ∉ rowOf v') (hl : ∀ q, q ∈ rowOf v' → q ∈ rowOf v) :
    HearR w C base v c' o a (.returned (.tuple #[.agg (heardC o a), .int .i64 0])) (setPt W (w.heap.size + 1) (strV (tb o)) (.bool o.isSome) (.bool a)) := by
  have hg : Chg [C] w (setPt W (w.heap.size + 1) (strV (tb o)) (.bool o.isSome) (.bool a)) := setPt_chg _ _ _ HA.g (.inr (by omega))
  refine ⟨rfl, v', ⟨?_, hw.chg hg (by intro q hq hm; simp at hq; subst hq; exact hne hm), hne⟩, hl, hg⟩
  exact HA.c.chg (setPt_chg (S := [w.heap.size + 1]) _ _ _ (Chg.refl _ _) (.inl (by simp))) (by simp; omega)
theorem wait_cut {w : World} {base : Nat} {B : Option Addr} {cp n kn : Nat} {cw : List Msg} (hw : WaitAt w base (.slice B n cp) cw.length (txtL cw)) (hn : cw.length = n) (hk : kn ≤ n) :
    WaitAt w base (.slice (if n = kn then B else Option.map (fun x => x.add kn) B) (n - kn) (n - kn)) (cw.drop kn).length (txtL (cw.drop kn)) := by
  obtain ⟨A, c, hv, _, hr⟩ := hw.form
  injection hv with h1 _ _
  subst h1
  rw [hn] at hr
  have hl : (cw.drop kn).length = n - kn := by rw [List.length_drop, hn]
  have := hr.cut (cap := n) hk (Nat.le_refl _)
  rw [Nat.mul_one] at this
  refine .inr ⟨_, by rw [hl], ?_⟩
  rw [hl, txtL, ← List.map_drop] at *
  exact this
theorem row_cut {B : Option Addr} {n kn cp a b q : Nat} (h : q ∈ rowOf (.slice (if n = kn then B else Option.map (fun x => x.add kn) B) a b)) : q ∈ rowOf (.slice B n cp) := by
  cases B with
  | none => simp [rowOf, Value.ownBlock] at h
  | some ad =>
    split at h
    · exact h
    · simpa [rowOf, Value.ownBlock, block_add] using h
theorem Lies.refl (w : World) (v : Value) : Lies w v v := fun _ h => .inl h
theorem Lies.nil (w : World) (v : Value) : Lies w v (.slice none 0 0) := fun q h => by simp [rowOf, Value.ownBlock] at h

set_option maxHeartbeats 1000000 in
set_option maxRecDepth 100000 in
theorem hearE_t (C base : Nat) (v : Value) (cm cf cl : Int) (cmet _cowes : Bool) (cw : List Msg) (pm py pa ps : Int) (px : Option Msg) (w : World)
    (hC : ChanAt w C base v ⟨cm, pm, cf, cw, cl, cmet, true⟩) (hp : PkCan pm py pa ps (tb px)) (hy : py ≠ cm) :
    Calls Try.prog 24 #[.pointer (some ⟨C, 0, none⟩), pkV pm py pa ps (tb px)] w (HearR w C base v ⟨cm, pm, cf, cw, cl, cmet, true⟩ none false) := by
  have K1 := Lib.hid (fun w => scheck_any pm py pa ps (tb px) w hp)
  obtain ⟨B, cp, rfl, hnc, hrd⟩ := hC.wait.form
  have hlt := hC.blk.lt
  have HRd := Lib.hid hrd
  obtain ⟨n, hn⟩ : ∃ n, cw.length = n := ⟨_, rfl⟩
  have HN := Lib.hid hn
  change cw.length ≤ cp at hnc
  have HBn : Hid (Blk w C 83 (chanC ⟨cm, pm, cf, cw, cl, cmet, true⟩ (.slice B n cp))) := by rw [← hn]; exact hC.blk
  have HWn : Hid (WaitAt w base (.slice B n cp) cw.length (txtL cw)) := by have := hC.wait; rw [← hn]; exact this
  have HNE : Hid (C ∉ rowOf (.slice B n cp)) := by rw [← hn]; exact hC.ne
  rw [hn] at hnc
  have e1 : (py == cm) = false := by simpa using hy
  have e2 : (py != cm) = true := by simpa using hy
  clear hy
  clear hp hC hrd hn
  change Calls _ _ _ _ (HearR w C base (.slice B cw.length cp) _ _ _)
  rw [HN.out]
  go_enter Try.func24, Try.ntmps24
  go_wp2_with fail
  (with_reducible refine (K1.out _).mono ?_)
  rintro e w1 ⟨rfl, hg1⟩
  have HA := Lib.hid (hear_start HBn.out hg1)
  clear hg1
  have q0 : w1.cell? ⟨w.heap.size, 0, none⟩ = some (i64 pm) := HA.out.q.cell 0
  have c1 : w1.cell? ⟨C, 1, none⟩ = some (i64 pm) := HA.out.c.cell 1
  go_wp2_with fail
  go_quiet (fail)
  rename_i nq
  have HA2 : Hid (HearAt w (w1.drewN nq) C #[i64 pm, i64 py, i64 pa, i64 ps, strV (tb px)] #[.string ⟨#[]⟩, .bool false, .bool false] #[.string ⟨#[]⟩, .bool false, .bool false] #[i64 cm, i64 pm, i64 cf, .slice B n cp, i64 cl, .bool cmet, .bool true]) := HA.out.drewN nq
  clear q0 c1
  clear HA
  generalize w1.drewN nq = w2 at HA2 ⊢
  have HA := HA2
  clear HA2
  have q0 : w2.cell? ⟨w.heap.size, 0, none⟩ = some (i64 pm) := HA.out.q.cell 0
  have c1 : w2.cell? ⟨C, 1, none⟩ = some (i64 pm) := HA.out.c.cell 1
  go_wp2_with fail
  go_quiet (fail)
  rename_i nq
  have HA3 : Hid (HearAt w (w2.drewN nq) C #[i64 pm, i64 py, i64 pa, i64 ps, strV (tb px)] #[.string ⟨#[]⟩, .bool false, .bool false] #[.string ⟨#[]⟩, .bool false, .bool false] #[i64 cm, i64 pm, i64 cf, .slice B n cp, i64 cl, .bool cmet, .bool true]) := HA.out.drewN nq
  clear q0 c1
  clear HA
  generalize w2.drewN nq = w3 at HA3 ⊢
  have HA := HA3
  clear HA3
  have q1 : w3.cell? ⟨w.heap.size, 1, none⟩ = some (i64 py) := HA.out.q.cell 1
  have q3 : w3.cell? ⟨w.heap.size, 3, none⟩ = some (i64 ps) := HA.out.q.cell 3
  have h2 : w3.cell? ⟨w.heap.size + 1 + 1, 2, none⟩ = some (.bool false) := HA.out.h.cell 2
  have c0 : w3.cell? ⟨C, 0, none⟩ = some (i64 cm) := HA.out.c.cell 0
  have c6 : w3.cell? ⟨C, 6, none⟩ = some (.bool true) := HA.out.c.cell 6
  go_wp2_with fail
  refine wp_region_still_tail 25 (by kernel_rfl) (by kernel_rfl) ?_
  simp only [List.take_succ_cons, List.take_zero, List.drop_succ_cons, List.drop_zero]
  repeat (with_reducible refine wpStill_step ?_; intro K hK; go_simp; with_reducible refine hK _ ?_; clear hK K)
  with_reducible refine wpStill_nil ?_
  change wpList _ _ _ _ _ w3.drew
  have HA4 : Hid (HearAt w (w3.drew) C #[i64 pm, i64 py, i64 pa, i64 ps, strV (tb px)] #[.string ⟨#[]⟩, .bool false, .bool false] #[.string ⟨#[]⟩, .bool false, .bool false] #[i64 cm, i64 pm, i64 cf, .slice B n cp, i64 cl, .bool cmet, .bool true]) := HA.out.drew
  clear q1 q3 h2 c0 c6
  clear HA
  generalize w3.drew = w4 at HA4 ⊢
  have HA := HA4
  clear HA4
  have c6 : w4.cell? ⟨C, 6, none⟩ = some (.bool true) := HA.out.c.cell 6
  have f6 : w4.frozen? ⟨C, 6, none⟩ = false := HA.out.c.frozen 6
  go_wp2_with fail
  have HA5 : Hid (HearAt w (w4.setCell ⟨C, 6, none⟩ (.bool true)) C #[i64 pm, i64 py, i64 pa, i64 ps, strV (tb px)] #[.string ⟨#[]⟩, .bool false, .bool false] #[.string ⟨#[]⟩, .bool false, .bool false] #[i64 cm, i64 pm, i64 cf, .slice B n cp, i64 cl, .bool cmet, .bool true]) := HA.out.setC hlt 6 _
  clear c6 f6
  clear HA
  generalize w4.setCell ⟨C, 6, none⟩ (.bool true) = w5 at HA5 ⊢
  have HA := HA5
  clear HA5
  have q1 : w5.cell? ⟨w.heap.size, 1, none⟩ = some (i64 py) := HA.out.q.cell 1
  have c0 : w5.cell? ⟨C, 0, none⟩ = some (i64 cm) := HA.out.c.cell 0
  go_wp2_with fail
  go_quiet (fail)
  rename_i nq
  have HA6 : Hid (HearAt w (w5.drewN nq) C #[i64 pm, i64 py, i64 pa, i64 ps, strV (tb px)] #[.string ⟨#[]⟩, .bool false, .bool false] #[.string ⟨#[]⟩, .bool false, .bool false] #[i64 cm, i64 pm, i64 cf, .slice B n cp, i64 cl, .bool cmet, .bool true]) := HA.out.drewN nq
  clear q1 c0
  clear HA
  generalize w5.drewN nq = w6 at HA6 ⊢
  have HA := HA6
  clear HA6
  have h0 : w6.cell? ⟨w.heap.size + 1 + 1, 0, none⟩ = some (.string ⟨#[]⟩) := HA.out.h.cell 0
  have h1 : w6.cell? ⟨w.heap.size + 1 + 1, 1, none⟩ = some (.bool false) := HA.out.h.cell 1
  have h2 : w6.cell? ⟨w.heap.size + 1 + 1, 2, none⟩ = some (.bool false) := HA.out.h.cell 2
  have r0 : w6.cell? ⟨w.heap.size + 1, 0, none⟩ = some (.string ⟨#[]⟩) := HA.out.r.cell 0
  have r1 : w6.cell? ⟨w.heap.size + 1, 1, none⟩ = some (.bool false) := HA.out.r.cell 1
  have r2 : w6.cell? ⟨w.heap.size + 1, 2, none⟩ = some (.bool false) := HA.out.r.cell 2
  have g0 : w6.frozen? ⟨w.heap.size + 1, 0, none⟩ = false := HA.out.r.frozen 0
  have g1 : w6.frozen? ⟨w.heap.size + 1, 1, none⟩ = false := HA.out.r.frozen 1
  have g2 : w6.frozen? ⟨w.heap.size + 1, 2, none⟩ = false := HA.out.r.frozen 2
  go_wp2_with fail
  change bodyPost _ _ _ _ _ (setPt w6 (w.heap.size + 1) (.string ⟨#[]⟩) (.bool false) (.bool false))
  clear h0 h1 h2 r0 r1 r2 g0 g1 g2
  have hcl : HearR w C base (.slice B n cp) ⟨cm, pm, cf, cw, cl, cmet, true⟩ none false (.returned (.tuple #[.agg (heardC (none : Option Msg) false), .int .i64 0])) (setPt w6 (w.heap.size + 1) (strV (tb (none : Option Msg))) (.bool (Option.isSome (none : Option Msg))) (.bool false)) := hear_close (v' := .slice B n cp) HA.out hlt (HWn.out) HNE.out (fun _ h => h)
  refine bodyPost_ret (results_cell_tmp_row rfl _ _ (w.heap.size + 1) 74 _ (0, 0) _ rfl (setPt_blk _ _ _ HA.out.r) Try.underlying74 rfl (by kernel_rfl)) rfl ?_
  exact hcl

set_option maxHeartbeats 1000000 in
set_option maxRecDepth 100000 in
theorem hearE_ft (C base : Nat) (v : Value) (cm cf cl : Int) (cmet _cowes : Bool) (cw : List Msg) (pm py pa ps : Int) (px : Option Msg) (w : World)
    (hC : ChanAt w C base v ⟨cm, pm, cf, cw, cl, cmet, false⟩) (hp : PkCan pm py pa ps (tb px)) (hy : py ≠ cm) (hs : 0 < ps) :
    Calls Try.prog 24 #[.pointer (some ⟨C, 0, none⟩), pkV pm py pa ps (tb px)] w (HearR w C base v ⟨cm, pm, cf, cw, cl, cmet, true⟩ none false) := by
  have K1 := Lib.hid (fun w => scheck_any pm py pa ps (tb px) w hp)
  obtain ⟨B, cp, rfl, hnc, hrd⟩ := hC.wait.form
  have hlt := hC.blk.lt
  have HRd := Lib.hid hrd
  obtain ⟨n, hn⟩ : ∃ n, cw.length = n := ⟨_, rfl⟩
  have HN := Lib.hid hn
  change cw.length ≤ cp at hnc
  have HBn : Hid (Blk w C 83 (chanC ⟨cm, pm, cf, cw, cl, cmet, false⟩ (.slice B n cp))) := by rw [← hn]; exact hC.blk
  have HWn : Hid (WaitAt w base (.slice B n cp) cw.length (txtL cw)) := by have := hC.wait; rw [← hn]; exact this
  have HNE : Hid (C ∉ rowOf (.slice B n cp)) := by rw [← hn]; exact hC.ne
  rw [hn] at hnc
  have e1 : (py == cm) = false := by simpa using hy
  have e2 : (py != cm) = true := by simpa using hy
  have e3 : decide (0 < ps) = true := by simpa using hs
  clear hs
  clear hy
  clear hp hC hrd hn
  change Calls _ _ _ _ (HearR w C base (.slice B cw.length cp) _ _ _)
  rw [HN.out]
  go_enter Try.func24, Try.ntmps24
  go_wp2_with fail
  (with_reducible refine (K1.out _).mono ?_)
  rintro e w1 ⟨rfl, hg1⟩
  have HA := Lib.hid (hear_start HBn.out hg1)
  clear hg1
  have q0 : w1.cell? ⟨w.heap.size, 0, none⟩ = some (i64 pm) := HA.out.q.cell 0
  have c1 : w1.cell? ⟨C, 1, none⟩ = some (i64 pm) := HA.out.c.cell 1
  go_wp2_with fail
  go_quiet (fail)
  rename_i nq
  have HA2 : Hid (HearAt w (w1.drewN nq) C #[i64 pm, i64 py, i64 pa, i64 ps, strV (tb px)] #[.string ⟨#[]⟩, .bool false, .bool false] #[.string ⟨#[]⟩, .bool false, .bool false] #[i64 cm, i64 pm, i64 cf, .slice B n cp, i64 cl, .bool cmet, .bool false]) := HA.out.drewN nq
  clear q0 c1
  clear HA
  generalize w1.drewN nq = w2 at HA2 ⊢
  have HA := HA2
  clear HA2
  have q0 : w2.cell? ⟨w.heap.size, 0, none⟩ = some (i64 pm) := HA.out.q.cell 0
  have c1 : w2.cell? ⟨C, 1, none⟩ = some (i64 pm) := HA.out.c.cell 1
  go_wp2_with fail
  go_quiet (fail)
  rename_i nq
  have HA3 : Hid (HearAt w (w2.drewN nq) C #[i64 pm, i64 py, i64 pa, i64 ps, strV (tb px)] #[.string ⟨#[]⟩, .bool false, .bool false] #[.string ⟨#[]⟩, .bool false, .bool false] #[i64 cm, i64 pm, i64 cf, .slice B n cp, i64 cl, .bool cmet, .bool false]) := HA.out.drewN nq
  clear q0 c1
  clear HA
  generalize w2.drewN nq = w3 at HA3 ⊢
  have HA := HA3
  clear HA3
  have q1 : w3.cell? ⟨w.heap.size, 1, none⟩ = some (i64 py) := HA.out.q.cell 1
  have q3 : w3.cell? ⟨w.heap.size, 3, none⟩ = some (i64 ps) := HA.out.q.cell 3
  have h2 : w3.cell? ⟨w.heap.size + 1 + 1, 2, none⟩ = some (.bool false) := HA.out.h.cell 2
  have c0 : w3.cell? ⟨C, 0, none⟩ = some (i64 cm) := HA.out.c.cell 0
  have c6 : w3.cell? ⟨C, 6, none⟩ = some (.bool false) := HA.out.c.cell 6
  go_wp2_with fail
  refine wp_region_still_tail 25 (by kernel_rfl) (by kernel_rfl) ?_
  simp only [List.take_succ_cons, List.take_zero, List.drop_succ_cons, List.drop_zero]
  repeat (with_reducible refine wpStill_step ?_; intro K hK; go_simp; with_reducible refine hK _ ?_; clear hK K)
  with_reducible refine wpStill_nil ?_
  change wpList _ _ _ _ _ w3.drew
  have HA4 : Hid (HearAt w (w3.drew) C #[i64 pm, i64 py, i64 pa, i64 ps, strV (tb px)] #[.string ⟨#[]⟩, .bool false, .bool false] #[.string ⟨#[]⟩, .bool false, .bool false] #[i64 cm, i64 pm, i64 cf, .slice B n cp, i64 cl, .bool cmet, .bool false]) := HA.out.drew
  clear q1 q3 h2 c0 c6
  clear HA
  generalize w3.drew = w4 at HA4 ⊢
  have HA := HA4
  clear HA4
  have c6 : w4.cell? ⟨C, 6, none⟩ = some (.bool false) := HA.out.c.cell 6
  have f6 : w4.frozen? ⟨C, 6, none⟩ = false := HA.out.c.frozen 6
  go_wp2_with fail
  have HA5 : Hid (HearAt w (w4.setCell ⟨C, 6, none⟩ (.bool true)) C #[i64 pm, i64 py, i64 pa, i64 ps, strV (tb px)] #[.string ⟨#[]⟩, .bool false, .bool false] #[.string ⟨#[]⟩, .bool false, .bool false] #[i64 cm, i64 pm, i64 cf, .slice B n cp, i64 cl, .bool cmet, .bool true]) := HA.out.setC hlt 6 _
  clear c6 f6
  clear HA
  generalize w4.setCell ⟨C, 6, none⟩ (.bool true) = w5 at HA5 ⊢
  have HA := HA5
  clear HA5
  have q1 : w5.cell? ⟨w.heap.size, 1, none⟩ = some (i64 py) := HA.out.q.cell 1
  have c0 : w5.cell? ⟨C, 0, none⟩ = some (i64 cm) := HA.out.c.cell 0
  go_wp2_with fail
  go_quiet (fail)
  rename_i nq
  have HA6 : Hid (HearAt w (w5.drewN nq) C #[i64 pm, i64 py, i64 pa, i64 ps, strV (tb px)] #[.string ⟨#[]⟩, .bool false, .bool false] #[.string ⟨#[]⟩, .bool false, .bool false] #[i64 cm, i64 pm, i64 cf, .slice B n cp, i64 cl, .bool cmet, .bool true]) := HA.out.drewN nq
  clear q1 c0
  clear HA
  generalize w5.drewN nq = w6 at HA6 ⊢
  have HA := HA6
  clear HA6
  have h0 : w6.cell? ⟨w.heap.size + 1 + 1, 0, none⟩ = some (.string ⟨#[]⟩) := HA.out.h.cell 0
  have h1 : w6.cell? ⟨w.heap.size + 1 + 1, 1, none⟩ = some (.bool false) := HA.out.h.cell 1
  have h2 : w6.cell? ⟨w.heap.size + 1 + 1, 2, none⟩ = some (.bool false) := HA.out.h.cell 2
  have r0 : w6.cell? ⟨w.heap.size + 1, 0, none⟩ = some (.string ⟨#[]⟩) := HA.out.r.cell 0
  have r1 : w6.cell? ⟨w.heap.size + 1, 1, none⟩ = some (.bool false) := HA.out.r.cell 1
  have r2 : w6.cell? ⟨w.heap.size + 1, 2, none⟩ = some (.bool false) := HA.out.r.cell 2
  have g0 : w6.frozen? ⟨w.heap.size + 1, 0, none⟩ = false := HA.out.r.frozen 0
  have g1 : w6.frozen? ⟨w.heap.size + 1, 1, none⟩ = false := HA.out.r.frozen 1
  have g2 : w6.frozen? ⟨w.heap.size + 1, 2, none⟩ = false := HA.out.r.frozen 2
  go_wp2_with fail
  change bodyPost _ _ _ _ _ (setPt w6 (w.heap.size + 1) (.string ⟨#[]⟩) (.bool false) (.bool false))
  clear h0 h1 h2 r0 r1 r2 g0 g1 g2
  have hcl : HearR w C base (.slice B n cp) ⟨cm, pm, cf, cw, cl, cmet, true⟩ none false (.returned (.tuple #[.agg (heardC (none : Option Msg) false), .int .i64 0])) (setPt w6 (w.heap.size + 1) (strV (tb (none : Option Msg))) (.bool (Option.isSome (none : Option Msg))) (.bool false)) := hear_close (v' := .slice B n cp) HA.out hlt (HWn.out) HNE.out (fun _ h => h)
  refine bodyPost_ret (results_cell_tmp_row rfl _ _ (w.heap.size + 1) 74 _ (0, 0) _ rfl (setPt_blk _ _ _ HA.out.r) Try.underlying74 rfl (by kernel_rfl)) rfl ?_
  exact hcl

set_option maxHeartbeats 1000000 in
set_option maxRecDepth 100000 in
theorem hearE_ff (C base : Nat) (v : Value) (cm cf cl : Int) (cmet _cowes : Bool) (cw : List Msg) (pm py pa ps : Int) (px : Option Msg) (w : World)
    (hC : ChanAt w C base v ⟨cm, pm, cf, cw, cl, cmet, false⟩) (hp : PkCan pm py pa ps (tb px)) (hy : py ≠ cm) (hs : ¬ 0 < ps) :
    Calls Try.prog 24 #[.pointer (some ⟨C, 0, none⟩), pkV pm py pa ps (tb px)] w (HearR w C base v ⟨cm, pm, cf, cw, cl, cmet, true⟩ none false) := by
  have K1 := Lib.hid (fun w => scheck_any pm py pa ps (tb px) w hp)
  obtain ⟨B, cp, rfl, hnc, hrd⟩ := hC.wait.form
  have hlt := hC.blk.lt
  have HRd := Lib.hid hrd
  obtain ⟨n, hn⟩ : ∃ n, cw.length = n := ⟨_, rfl⟩
  have HN := Lib.hid hn
  change cw.length ≤ cp at hnc
  have HBn : Hid (Blk w C 83 (chanC ⟨cm, pm, cf, cw, cl, cmet, false⟩ (.slice B n cp))) := by rw [← hn]; exact hC.blk
  have HWn : Hid (WaitAt w base (.slice B n cp) cw.length (txtL cw)) := by have := hC.wait; rw [← hn]; exact this
  have HNE : Hid (C ∉ rowOf (.slice B n cp)) := by rw [← hn]; exact hC.ne
  rw [hn] at hnc
  have e1 : (py == cm) = false := by simpa using hy
  have e2 : (py != cm) = true := by simpa using hy
  have e3 : decide (0 < ps) = false := by simpa using hs
  clear hs
  clear hy
  clear hp hC hrd hn
  change Calls _ _ _ _ (HearR w C base (.slice B cw.length cp) _ _ _)
  rw [HN.out]
  go_enter Try.func24, Try.ntmps24
  go_wp2_with fail
  (with_reducible refine (K1.out _).mono ?_)
  rintro e w1 ⟨rfl, hg1⟩
  have HA := Lib.hid (hear_start HBn.out hg1)
  clear hg1
  have q0 : w1.cell? ⟨w.heap.size, 0, none⟩ = some (i64 pm) := HA.out.q.cell 0
  have c1 : w1.cell? ⟨C, 1, none⟩ = some (i64 pm) := HA.out.c.cell 1
  go_wp2_with fail
  go_quiet (fail)
  rename_i nq
  have HA2 : Hid (HearAt w (w1.drewN nq) C #[i64 pm, i64 py, i64 pa, i64 ps, strV (tb px)] #[.string ⟨#[]⟩, .bool false, .bool false] #[.string ⟨#[]⟩, .bool false, .bool false] #[i64 cm, i64 pm, i64 cf, .slice B n cp, i64 cl, .bool cmet, .bool false]) := HA.out.drewN nq
  clear q0 c1
  clear HA
  generalize w1.drewN nq = w2 at HA2 ⊢
  have HA := HA2
  clear HA2
  have q0 : w2.cell? ⟨w.heap.size, 0, none⟩ = some (i64 pm) := HA.out.q.cell 0
  have c1 : w2.cell? ⟨C, 1, none⟩ = some (i64 pm) := HA.out.c.cell 1
  go_wp2_with fail
  go_quiet (fail)
  rename_i nq
  have HA3 : Hid (HearAt w (w2.drewN nq) C #[i64 pm, i64 py, i64 pa, i64 ps, strV (tb px)] #[.string ⟨#[]⟩, .bool false, .bool false] #[.string ⟨#[]⟩, .bool false, .bool false] #[i64 cm, i64 pm, i64 cf, .slice B n cp, i64 cl, .bool cmet, .bool false]) := HA.out.drewN nq
  clear q0 c1
  clear HA
  generalize w2.drewN nq = w3 at HA3 ⊢
  have HA := HA3
  clear HA3
  have q1 : w3.cell? ⟨w.heap.size, 1, none⟩ = some (i64 py) := HA.out.q.cell 1
  have q3 : w3.cell? ⟨w.heap.size, 3, none⟩ = some (i64 ps) := HA.out.q.cell 3
  have h2 : w3.cell? ⟨w.heap.size + 1 + 1, 2, none⟩ = some (.bool false) := HA.out.h.cell 2
  have c0 : w3.cell? ⟨C, 0, none⟩ = some (i64 cm) := HA.out.c.cell 0
  have c6 : w3.cell? ⟨C, 6, none⟩ = some (.bool false) := HA.out.c.cell 6
  go_wp2_with fail
  refine wp_region_still_tail 25 (by kernel_rfl) (by kernel_rfl) ?_
  simp only [List.take_succ_cons, List.take_zero, List.drop_succ_cons, List.drop_zero]
  repeat (with_reducible refine wpStill_step ?_; intro K hK; go_simp; with_reducible refine hK _ ?_; clear hK K)
  with_reducible refine wpStill_nil ?_
  change wpList _ _ _ _ _ w3.drew
  have HA4 : Hid (HearAt w (w3.drew) C #[i64 pm, i64 py, i64 pa, i64 ps, strV (tb px)] #[.string ⟨#[]⟩, .bool false, .bool false] #[.string ⟨#[]⟩, .bool false, .bool false] #[i64 cm, i64 pm, i64 cf, .slice B n cp, i64 cl, .bool cmet, .bool false]) := HA.out.drew
  clear q1 q3 h2 c0 c6
  clear HA
  generalize w3.drew = w4 at HA4 ⊢
  have HA := HA4
  clear HA4
  have c6 : w4.cell? ⟨C, 6, none⟩ = some (.bool false) := HA.out.c.cell 6
  have f6 : w4.frozen? ⟨C, 6, none⟩ = false := HA.out.c.frozen 6
  go_wp2_with fail
  have HA5 : Hid (HearAt w (w4.setCell ⟨C, 6, none⟩ (.bool true)) C #[i64 pm, i64 py, i64 pa, i64 ps, strV (tb px)] #[.string ⟨#[]⟩, .bool false, .bool false] #[.string ⟨#[]⟩, .bool false, .bool false] #[i64 cm, i64 pm, i64 cf, .slice B n cp, i64 cl, .bool cmet, .bool true]) := HA.out.setC hlt 6 _
  clear c6 f6
  clear HA
  generalize w4.setCell ⟨C, 6, none⟩ (.bool true) = w5 at HA5 ⊢
  have HA := HA5
  clear HA5
  have q1 : w5.cell? ⟨w.heap.size, 1, none⟩ = some (i64 py) := HA.out.q.cell 1
  have c0 : w5.cell? ⟨C, 0, none⟩ = some (i64 cm) := HA.out.c.cell 0
  go_wp2_with fail
  go_quiet (fail)
  rename_i nq
  have HA6 : Hid (HearAt w (w5.drewN nq) C #[i64 pm, i64 py, i64 pa, i64 ps, strV (tb px)] #[.string ⟨#[]⟩, .bool false, .bool false] #[.string ⟨#[]⟩, .bool false, .bool false] #[i64 cm, i64 pm, i64 cf, .slice B n cp, i64 cl, .bool cmet, .bool true]) := HA.out.drewN nq
  clear q1 c0
  clear HA
  generalize w5.drewN nq = w6 at HA6 ⊢
  have HA := HA6
  clear HA6
  have h0 : w6.cell? ⟨w.heap.size + 1 + 1, 0, none⟩ = some (.string ⟨#[]⟩) := HA.out.h.cell 0
  have h1 : w6.cell? ⟨w.heap.size + 1 + 1, 1, none⟩ = some (.bool false) := HA.out.h.cell 1
  have h2 : w6.cell? ⟨w.heap.size + 1 + 1, 2, none⟩ = some (.bool false) := HA.out.h.cell 2
  have r0 : w6.cell? ⟨w.heap.size + 1, 0, none⟩ = some (.string ⟨#[]⟩) := HA.out.r.cell 0
  have r1 : w6.cell? ⟨w.heap.size + 1, 1, none⟩ = some (.bool false) := HA.out.r.cell 1
  have r2 : w6.cell? ⟨w.heap.size + 1, 2, none⟩ = some (.bool false) := HA.out.r.cell 2
  have g0 : w6.frozen? ⟨w.heap.size + 1, 0, none⟩ = false := HA.out.r.frozen 0
  have g1 : w6.frozen? ⟨w.heap.size + 1, 1, none⟩ = false := HA.out.r.frozen 1
  have g2 : w6.frozen? ⟨w.heap.size + 1, 2, none⟩ = false := HA.out.r.frozen 2
  go_wp2_with fail
  change bodyPost _ _ _ _ _ (setPt w6 (w.heap.size + 1) (.string ⟨#[]⟩) (.bool false) (.bool false))
  clear h0 h1 h2 r0 r1 r2 g0 g1 g2
  have hcl : HearR w C base (.slice B n cp) ⟨cm, pm, cf, cw, cl, cmet, true⟩ none false (.returned (.tuple #[.agg (heardC (none : Option Msg) false), .int .i64 0])) (setPt w6 (w.heap.size + 1) (strV (tb (none : Option Msg))) (.bool (Option.isSome (none : Option Msg))) (.bool false)) := hear_close (v' := .slice B n cp) HA.out hlt (HWn.out) HNE.out (fun _ h => h)
  refine bodyPost_ret (results_cell_tmp_row rfl _ _ (w.heap.size + 1) 74 _ (0, 0) _ rfl (setPt_blk _ _ _ HA.out.r) Try.underlying74 rfl (by kernel_rfl)) rfl ?_
  exact hcl

set_option maxHeartbeats 1000000 in
set_option maxRecDepth 100000 in
theorem hearL_tn (C base : Nat) (v : Value) (cm cf cl : Int) (cmet _cowes : Bool) (cw : List Msg) (pm pa ps : Int) (px : Option Msg) {k : Int} (w : World)
    (hC : ChanAt w C base v ⟨cm, pm, cf, cw, cl, cmet, true⟩) (hp : PkCan pm cm pa ps (tb px)) (hs : ¬ 0 < ps) (hf0 : 0 ≤ cf) (hf1 : cf ≤ 1099511627776) (_hl0 : 0 ≤ cl) (_hl1 : cl ≤ 1099511627776) (hk : min (pa - cf + 1) (cw.length : Int) = k) (hk0 : ¬ 0 < k) (_hlw : cw.length ≤ 1099511627776) :
    Calls Try.prog 24 #[.pointer (some ⟨C, 0, none⟩), pkV pm cm pa ps (tb px)] w (HearR w C base v ⟨cm, pm, cf, cw, cl, true, true⟩ none false) := by
  have K1 := Lib.hid (fun w => scheck_any pm cm pa ps (tb px) w hp)
  obtain ⟨B, cp, rfl, hnc, hrd⟩ := hC.wait.form
  have hlt := hC.blk.lt
  have HRd := Lib.hid hrd
  obtain ⟨n, hn⟩ : ∃ n, cw.length = n := ⟨_, rfl⟩
  have HN := Lib.hid hn
  change cw.length ≤ cp at hnc
  have HBn : Hid (Blk w C 83 (chanC ⟨cm, pm, cf, cw, cl, cmet, true⟩ (.slice B n cp))) := by rw [← hn]; exact hC.blk
  have HWn : Hid (WaitAt w base (.slice B n cp) cw.length (txtL cw)) := by have := hC.wait; rw [← hn]; exact this
  have HNE : Hid (C ∉ rowOf (.slice B n cp)) := by rw [← hn]; exact hC.ne
  rw [hn] at hnc
  rw [hn] at _hlw
  have e3 : decide (0 < ps) = false := by simpa using hs
  have k1 : IntKind.i64.wrap (pa - cf) = pa - cf := IntWalk.i64_in _ (by have := hp.c0; have := hp.c1; omega)
  have k2 : IntKind.i64.wrap (pa - cf + 1) = pa - cf + 1 := IntWalk.i64_in _ (by have := hp.c0; have := hp.c1; omega)
  have hk2 : min (pa - cf + 1) (n : Int) = k := by rw [← hk, hn]
  have e6 : decide (0 < k) = false := by simp; omega
  clear hk hk0
  clear hf0 hf1 _hl0 _hl1
  clear hs
  clear hp hC hrd hn
  change Calls _ _ _ _ (HearR w C base (.slice B cw.length cp) _ _ _)
  rw [HN.out]
  go_enter Try.func24, Try.ntmps24
  go_wp2_with fail
  (with_reducible refine (K1.out _).mono ?_)
  rintro e w1 ⟨rfl, hg1⟩
  have HA := Lib.hid (hear_start HBn.out hg1)
  clear hg1
  have q0 : w1.cell? ⟨w.heap.size, 0, none⟩ = some (i64 pm) := HA.out.q.cell 0
  have c1 : w1.cell? ⟨C, 1, none⟩ = some (i64 pm) := HA.out.c.cell 1
  go_wp2_with fail
  go_quiet (fail)
  rename_i nq
  have HA2 : Hid (HearAt w (w1.drewN nq) C #[i64 pm, i64 cm, i64 pa, i64 ps, strV (tb px)] #[.string ⟨#[]⟩, .bool false, .bool false] #[.string ⟨#[]⟩, .bool false, .bool false] #[i64 cm, i64 pm, i64 cf, .slice B n cp, i64 cl, .bool cmet, .bool true]) := HA.out.drewN nq
  clear q0 c1
  clear HA
  generalize w1.drewN nq = w2 at HA2 ⊢
  have HA := HA2
  clear HA2
  have q0 : w2.cell? ⟨w.heap.size, 0, none⟩ = some (i64 pm) := HA.out.q.cell 0
  have c1 : w2.cell? ⟨C, 1, none⟩ = some (i64 pm) := HA.out.c.cell 1
  go_wp2_with fail
  go_quiet (fail)
  rename_i nq
  have HA3 : Hid (HearAt w (w2.drewN nq) C #[i64 pm, i64 cm, i64 pa, i64 ps, strV (tb px)] #[.string ⟨#[]⟩, .bool false, .bool false] #[.string ⟨#[]⟩, .bool false, .bool false] #[i64 cm, i64 pm, i64 cf, .slice B n cp, i64 cl, .bool cmet, .bool true]) := HA.out.drewN nq
  clear q0 c1
  clear HA
  generalize w2.drewN nq = w3 at HA3 ⊢
  have HA := HA3
  clear HA3
  have q1 : w3.cell? ⟨w.heap.size, 1, none⟩ = some (i64 cm) := HA.out.q.cell 1
  have q3 : w3.cell? ⟨w.heap.size, 3, none⟩ = some (i64 ps) := HA.out.q.cell 3
  have h2 : w3.cell? ⟨w.heap.size + 1 + 1, 2, none⟩ = some (.bool false) := HA.out.h.cell 2
  have c0 : w3.cell? ⟨C, 0, none⟩ = some (i64 cm) := HA.out.c.cell 0
  have c6 : w3.cell? ⟨C, 6, none⟩ = some (.bool true) := HA.out.c.cell 6
  go_wp2_with fail
  refine wp_region_still_tail 25 (by kernel_rfl) (by kernel_rfl) ?_
  simp only [List.take_succ_cons, List.take_zero, List.drop_succ_cons, List.drop_zero]
  repeat (with_reducible refine wpStill_step ?_; intro K hK; go_simp; with_reducible refine hK _ ?_; clear hK K)
  with_reducible refine wpStill_nil ?_
  change wpList _ _ _ _ _ w3.drew
  have HA4 : Hid (HearAt w (w3.drew) C #[i64 pm, i64 cm, i64 pa, i64 ps, strV (tb px)] #[.string ⟨#[]⟩, .bool false, .bool false] #[.string ⟨#[]⟩, .bool false, .bool false] #[i64 cm, i64 pm, i64 cf, .slice B n cp, i64 cl, .bool cmet, .bool true]) := HA.out.drew
  clear q1 q3 h2 c0 c6
  clear HA
  generalize w3.drew = w4 at HA4 ⊢
  have HA := HA4
  clear HA4
  have c6 : w4.cell? ⟨C, 6, none⟩ = some (.bool true) := HA.out.c.cell 6
  have f6 : w4.frozen? ⟨C, 6, none⟩ = false := HA.out.c.frozen 6
  go_wp2_with fail
  have HA5 : Hid (HearAt w (w4.setCell ⟨C, 6, none⟩ (.bool true)) C #[i64 pm, i64 cm, i64 pa, i64 ps, strV (tb px)] #[.string ⟨#[]⟩, .bool false, .bool false] #[.string ⟨#[]⟩, .bool false, .bool false] #[i64 cm, i64 pm, i64 cf, .slice B n cp, i64 cl, .bool cmet, .bool true]) := HA.out.setC hlt 6 _
  clear c6 f6
  clear HA
  generalize w4.setCell ⟨C, 6, none⟩ (.bool true) = w5 at HA5 ⊢
  have HA := HA5
  clear HA5
  have q1 : w5.cell? ⟨w.heap.size, 1, none⟩ = some (i64 cm) := HA.out.q.cell 1
  have c0 : w5.cell? ⟨C, 0, none⟩ = some (i64 cm) := HA.out.c.cell 0
  go_wp2_with fail
  go_quiet (fail)
  rename_i nq
  have HA6 : Hid (HearAt w (w5.drewN nq) C #[i64 pm, i64 cm, i64 pa, i64 ps, strV (tb px)] #[.string ⟨#[]⟩, .bool false, .bool false] #[.string ⟨#[]⟩, .bool false, .bool false] #[i64 cm, i64 pm, i64 cf, .slice B n cp, i64 cl, .bool cmet, .bool true]) := HA.out.drewN nq
  clear q1 c0
  clear HA
  generalize w5.drewN nq = w6 at HA6 ⊢
  have HA := HA6
  clear HA6
  have c5 : w6.cell? ⟨C, 5, none⟩ = some (.bool cmet) := HA.out.c.cell 5
  have f5 : w6.frozen? ⟨C, 5, none⟩ = false := HA.out.c.frozen 5
  go_wp2_with fail
  have HA7 : Hid (HearAt w (w6.setCell ⟨C, 5, none⟩ (.bool true)) C #[i64 pm, i64 cm, i64 pa, i64 ps, strV (tb px)] #[.string ⟨#[]⟩, .bool false, .bool false] #[.string ⟨#[]⟩, .bool false, .bool false] #[i64 cm, i64 pm, i64 cf, .slice B n cp, i64 cl, .bool true, .bool true]) := HA.out.setC hlt 5 _
  clear c5 f5
  clear HA
  generalize w6.setCell ⟨C, 5, none⟩ (.bool true) = w7 at HA7 ⊢
  have HA := HA7
  clear HA7
  have q2 : w7.cell? ⟨w.heap.size, 2, none⟩ = some (i64 pa) := HA.out.q.cell 2
  have c2 : w7.cell? ⟨C, 2, none⟩ = some (i64 cf) := HA.out.c.cell 2
  have c3 : w7.cell? ⟨C, 3, none⟩ = some (.slice B n cp) := HA.out.c.cell 3
  go_wp2_with fail
  go_quiet (fail)
  rename_i nq
  have HA8 : Hid (HearAt w (w7.drewN nq) C #[i64 pm, i64 cm, i64 pa, i64 ps, strV (tb px)] #[.string ⟨#[]⟩, .bool false, .bool false] #[.string ⟨#[]⟩, .bool false, .bool false] #[i64 cm, i64 pm, i64 cf, .slice B n cp, i64 cl, .bool true, .bool true]) := HA.out.drewN nq
  clear q2 c2 c3
  clear HA
  generalize w7.drewN nq = w8 at HA8 ⊢
  have HA := HA8
  clear HA8
  have q3 : w8.cell? ⟨w.heap.size, 3, none⟩ = some (i64 ps) := HA.out.q.cell 3
  go_wp2_with fail
  go_quiet (fail)
  rename_i nq
  have HA9 : Hid (HearAt w (w8.drewN nq) C #[i64 pm, i64 cm, i64 pa, i64 ps, strV (tb px)] #[.string ⟨#[]⟩, .bool false, .bool false] #[.string ⟨#[]⟩, .bool false, .bool false] #[i64 cm, i64 pm, i64 cf, .slice B n cp, i64 cl, .bool true, .bool true]) := HA.out.drewN nq
  clear q3
  clear HA
  generalize w8.drewN nq = w9 at HA9 ⊢
  have HA := HA9
  clear HA9
  have h0 : w9.cell? ⟨w.heap.size + 1 + 1, 0, none⟩ = some (.string ⟨#[]⟩) := HA.out.h.cell 0
  have h1 : w9.cell? ⟨w.heap.size + 1 + 1, 1, none⟩ = some (.bool false) := HA.out.h.cell 1
  have h2 : w9.cell? ⟨w.heap.size + 1 + 1, 2, none⟩ = some (.bool false) := HA.out.h.cell 2
  have r0 : w9.cell? ⟨w.heap.size + 1, 0, none⟩ = some (.string ⟨#[]⟩) := HA.out.r.cell 0
  have r1 : w9.cell? ⟨w.heap.size + 1, 1, none⟩ = some (.bool false) := HA.out.r.cell 1
  have r2 : w9.cell? ⟨w.heap.size + 1, 2, none⟩ = some (.bool false) := HA.out.r.cell 2
  have g0 : w9.frozen? ⟨w.heap.size + 1, 0, none⟩ = false := HA.out.r.frozen 0
  have g1 : w9.frozen? ⟨w.heap.size + 1, 1, none⟩ = false := HA.out.r.frozen 1
  have g2 : w9.frozen? ⟨w.heap.size + 1, 2, none⟩ = false := HA.out.r.frozen 2
  go_wp2_with fail
  change bodyPost _ _ _ _ _ (setPt w9 (w.heap.size + 1) (.string ⟨#[]⟩) (.bool false) (.bool false))
  clear h0 h1 h2 r0 r1 r2 g0 g1 g2
  have hcl : HearR w C base (.slice B n cp) ⟨cm, pm, cf, cw, cl, true, true⟩ none false (.returned (.tuple #[.agg (heardC (none : Option Msg) false), .int .i64 0])) (setPt w9 (w.heap.size + 1) (strV (tb (none : Option Msg))) (.bool (Option.isSome (none : Option Msg))) (.bool false)) := hear_close (v' := .slice B n cp) HA.out hlt (HWn.out) HNE.out (fun _ h => h)
  refine bodyPost_ret (results_cell_tmp_row rfl _ _ (w.heap.size + 1) 74 _ (0, 0) _ rfl (setPt_blk _ _ _ HA.out.r) Try.underlying74 rfl (by kernel_rfl)) rfl ?_
  exact hcl

set_option maxHeartbeats 1000000 in
set_option maxRecDepth 100000 in
theorem hearL_ts (C base : Nat) (v : Value) (cm cf cl : Int) (cmet _cowes : Bool) (cw : List Msg) (pm pa ps : Int) (px : Option Msg) {k : Int} (w : World)
    (hC : ChanAt w C base v ⟨cm, pm, cf, cw, cl, cmet, true⟩) (hp : PkCan pm cm pa ps (tb px)) (hs : 0 < ps) (hf0 : 0 ≤ cf) (hf1 : cf ≤ 1099511627776) (hl0 : 0 ≤ cl) (hl1 : cl ≤ 1099511627776) (hk : min (pa - cf + 1) (cw.length : Int) = k) (hk0 : ¬ 0 < k) (_hlw : cw.length ≤ 1099511627776) (ht : ps ≠ cl + 1) :
    Calls Try.prog 24 #[.pointer (some ⟨C, 0, none⟩), pkV pm cm pa ps (tb px)] w (HearR w C base v ⟨cm, pm, cf, cw, cl, true, true⟩ none false) := by
  have K1 := Lib.hid (fun w => scheck_any pm cm pa ps (tb px) w hp)
  obtain ⟨B, cp, rfl, hnc, hrd⟩ := hC.wait.form
  have hlt := hC.blk.lt
  have HRd := Lib.hid hrd
  obtain ⟨n, hn⟩ : ∃ n, cw.length = n := ⟨_, rfl⟩
  have HN := Lib.hid hn
  change cw.length ≤ cp at hnc
  have HBn : Hid (Blk w C 83 (chanC ⟨cm, pm, cf, cw, cl, cmet, true⟩ (.slice B n cp))) := by rw [← hn]; exact hC.blk
  have HWn : Hid (WaitAt w base (.slice B n cp) cw.length (txtL cw)) := by have := hC.wait; rw [← hn]; exact this
  have HNE : Hid (C ∉ rowOf (.slice B n cp)) := by rw [← hn]; exact hC.ne
  rw [hn] at hnc
  rw [hn] at _hlw
  have e3 : decide (0 < ps) = true := by simpa using hs
  have k1 : IntKind.i64.wrap (pa - cf) = pa - cf := IntWalk.i64_in _ (by have := hp.c0; have := hp.c1; omega)
  have k2 : IntKind.i64.wrap (pa - cf + 1) = pa - cf + 1 := IntWalk.i64_in _ (by have := hp.c0; have := hp.c1; omega)
  have hk2 : min (pa - cf + 1) (n : Int) = k := by rw [← hk, hn]
  have e6 : decide (0 < k) = false := by simp; omega
  clear hk hk0
  have k4 : IntKind.i64.wrap (cl + 1) = cl + 1 := IntWalk.i64_in _ (by omega)
  have e9 : (ps == cl + 1) = false := by simpa using ht
  clear ht
  clear hf0 hf1 hl0 hl1
  clear hs
  clear hp hC hrd hn
  change Calls _ _ _ _ (HearR w C base (.slice B cw.length cp) _ _ _)
  rw [HN.out]
  go_enter Try.func24, Try.ntmps24
  go_wp2_with fail
  (with_reducible refine (K1.out _).mono ?_)
  rintro e w1 ⟨rfl, hg1⟩
  have HA := Lib.hid (hear_start HBn.out hg1)
  clear hg1
  have q0 : w1.cell? ⟨w.heap.size, 0, none⟩ = some (i64 pm) := HA.out.q.cell 0
  have c1 : w1.cell? ⟨C, 1, none⟩ = some (i64 pm) := HA.out.c.cell 1
  go_wp2_with fail
  go_quiet (fail)
  rename_i nq
  have HA2 : Hid (HearAt w (w1.drewN nq) C #[i64 pm, i64 cm, i64 pa, i64 ps, strV (tb px)] #[.string ⟨#[]⟩, .bool false, .bool false] #[.string ⟨#[]⟩, .bool false, .bool false] #[i64 cm, i64 pm, i64 cf, .slice B n cp, i64 cl, .bool cmet, .bool true]) := HA.out.drewN nq
  clear q0 c1
  clear HA
  generalize w1.drewN nq = w2 at HA2 ⊢
  have HA := HA2
  clear HA2
  have q0 : w2.cell? ⟨w.heap.size, 0, none⟩ = some (i64 pm) := HA.out.q.cell 0
  have c1 : w2.cell? ⟨C, 1, none⟩ = some (i64 pm) := HA.out.c.cell 1
  go_wp2_with fail
  go_quiet (fail)
  rename_i nq
  have HA3 : Hid (HearAt w (w2.drewN nq) C #[i64 pm, i64 cm, i64 pa, i64 ps, strV (tb px)] #[.string ⟨#[]⟩, .bool false, .bool false] #[.string ⟨#[]⟩, .bool false, .bool false] #[i64 cm, i64 pm, i64 cf, .slice B n cp, i64 cl, .bool cmet, .bool true]) := HA.out.drewN nq
  clear q0 c1
  clear HA
  generalize w2.drewN nq = w3 at HA3 ⊢
  have HA := HA3
  clear HA3
  have q1 : w3.cell? ⟨w.heap.size, 1, none⟩ = some (i64 cm) := HA.out.q.cell 1
  have q3 : w3.cell? ⟨w.heap.size, 3, none⟩ = some (i64 ps) := HA.out.q.cell 3
  have h2 : w3.cell? ⟨w.heap.size + 1 + 1, 2, none⟩ = some (.bool false) := HA.out.h.cell 2
  have c0 : w3.cell? ⟨C, 0, none⟩ = some (i64 cm) := HA.out.c.cell 0
  have c6 : w3.cell? ⟨C, 6, none⟩ = some (.bool true) := HA.out.c.cell 6
  go_wp2_with fail
  refine wp_region_still_tail 25 (by kernel_rfl) (by kernel_rfl) ?_
  simp only [List.take_succ_cons, List.take_zero, List.drop_succ_cons, List.drop_zero]
  repeat (with_reducible refine wpStill_step ?_; intro K hK; go_simp; with_reducible refine hK _ ?_; clear hK K)
  with_reducible refine wpStill_nil ?_
  change wpList _ _ _ _ _ w3.drew
  have HA4 : Hid (HearAt w (w3.drew) C #[i64 pm, i64 cm, i64 pa, i64 ps, strV (tb px)] #[.string ⟨#[]⟩, .bool false, .bool false] #[.string ⟨#[]⟩, .bool false, .bool false] #[i64 cm, i64 pm, i64 cf, .slice B n cp, i64 cl, .bool cmet, .bool true]) := HA.out.drew
  clear q1 q3 h2 c0 c6
  clear HA
  generalize w3.drew = w4 at HA4 ⊢
  have HA := HA4
  clear HA4
  have c6 : w4.cell? ⟨C, 6, none⟩ = some (.bool true) := HA.out.c.cell 6
  have f6 : w4.frozen? ⟨C, 6, none⟩ = false := HA.out.c.frozen 6
  go_wp2_with fail
  have HA5 : Hid (HearAt w (w4.setCell ⟨C, 6, none⟩ (.bool true)) C #[i64 pm, i64 cm, i64 pa, i64 ps, strV (tb px)] #[.string ⟨#[]⟩, .bool false, .bool false] #[.string ⟨#[]⟩, .bool false, .bool false] #[i64 cm, i64 pm, i64 cf, .slice B n cp, i64 cl, .bool cmet, .bool true]) := HA.out.setC hlt 6 _
  clear c6 f6
  clear HA
  generalize w4.setCell ⟨C, 6, none⟩ (.bool true) = w5 at HA5 ⊢
  have HA := HA5
  clear HA5
  have q1 : w5.cell? ⟨w.heap.size, 1, none⟩ = some (i64 cm) := HA.out.q.cell 1
  have c0 : w5.cell? ⟨C, 0, none⟩ = some (i64 cm) := HA.out.c.cell 0
  go_wp2_with fail
  go_quiet (fail)
  rename_i nq
  have HA6 : Hid (HearAt w (w5.drewN nq) C #[i64 pm, i64 cm, i64 pa, i64 ps, strV (tb px)] #[.string ⟨#[]⟩, .bool false, .bool false] #[.string ⟨#[]⟩, .bool false, .bool false] #[i64 cm, i64 pm, i64 cf, .slice B n cp, i64 cl, .bool cmet, .bool true]) := HA.out.drewN nq
  clear q1 c0
  clear HA
  generalize w5.drewN nq = w6 at HA6 ⊢
  have HA := HA6
  clear HA6
  have c5 : w6.cell? ⟨C, 5, none⟩ = some (.bool cmet) := HA.out.c.cell 5
  have f5 : w6.frozen? ⟨C, 5, none⟩ = false := HA.out.c.frozen 5
  go_wp2_with fail
  have HA7 : Hid (HearAt w (w6.setCell ⟨C, 5, none⟩ (.bool true)) C #[i64 pm, i64 cm, i64 pa, i64 ps, strV (tb px)] #[.string ⟨#[]⟩, .bool false, .bool false] #[.string ⟨#[]⟩, .bool false, .bool false] #[i64 cm, i64 pm, i64 cf, .slice B n cp, i64 cl, .bool true, .bool true]) := HA.out.setC hlt 5 _
  clear c5 f5
  clear HA
  generalize w6.setCell ⟨C, 5, none⟩ (.bool true) = w7 at HA7 ⊢
  have HA := HA7
  clear HA7
  have q2 : w7.cell? ⟨w.heap.size, 2, none⟩ = some (i64 pa) := HA.out.q.cell 2
  have c2 : w7.cell? ⟨C, 2, none⟩ = some (i64 cf) := HA.out.c.cell 2
  have c3 : w7.cell? ⟨C, 3, none⟩ = some (.slice B n cp) := HA.out.c.cell 3
  go_wp2_with fail
  go_quiet (fail)
  rename_i nq
  have HA8 : Hid (HearAt w (w7.drewN nq) C #[i64 pm, i64 cm, i64 pa, i64 ps, strV (tb px)] #[.string ⟨#[]⟩, .bool false, .bool false] #[.string ⟨#[]⟩, .bool false, .bool false] #[i64 cm, i64 pm, i64 cf, .slice B n cp, i64 cl, .bool true, .bool true]) := HA.out.drewN nq
  clear q2 c2 c3
  clear HA
  generalize w7.drewN nq = w8 at HA8 ⊢
  have HA := HA8
  clear HA8
  have q3 : w8.cell? ⟨w.heap.size, 3, none⟩ = some (i64 ps) := HA.out.q.cell 3
  have c4 : w8.cell? ⟨C, 4, none⟩ = some (i64 cl) := HA.out.c.cell 4
  go_wp2_with fail
  go_quiet (fail)
  rename_i nq
  have HA9 : Hid (HearAt w (w8.drewN nq) C #[i64 pm, i64 cm, i64 pa, i64 ps, strV (tb px)] #[.string ⟨#[]⟩, .bool false, .bool false] #[.string ⟨#[]⟩, .bool false, .bool false] #[i64 cm, i64 pm, i64 cf, .slice B n cp, i64 cl, .bool true, .bool true]) := HA.out.drewN nq
  clear q3 c4
  clear HA
  generalize w8.drewN nq = w9 at HA9 ⊢
  have HA := HA9
  clear HA9
  have h0 : w9.cell? ⟨w.heap.size + 1 + 1, 0, none⟩ = some (.string ⟨#[]⟩) := HA.out.h.cell 0
  have h1 : w9.cell? ⟨w.heap.size + 1 + 1, 1, none⟩ = some (.bool false) := HA.out.h.cell 1
  have h2 : w9.cell? ⟨w.heap.size + 1 + 1, 2, none⟩ = some (.bool false) := HA.out.h.cell 2
  have r0 : w9.cell? ⟨w.heap.size + 1, 0, none⟩ = some (.string ⟨#[]⟩) := HA.out.r.cell 0
  have r1 : w9.cell? ⟨w.heap.size + 1, 1, none⟩ = some (.bool false) := HA.out.r.cell 1
  have r2 : w9.cell? ⟨w.heap.size + 1, 2, none⟩ = some (.bool false) := HA.out.r.cell 2
  have g0 : w9.frozen? ⟨w.heap.size + 1, 0, none⟩ = false := HA.out.r.frozen 0
  have g1 : w9.frozen? ⟨w.heap.size + 1, 1, none⟩ = false := HA.out.r.frozen 1
  have g2 : w9.frozen? ⟨w.heap.size + 1, 2, none⟩ = false := HA.out.r.frozen 2
  go_wp2_with fail
  change bodyPost _ _ _ _ _ (setPt w9 (w.heap.size + 1) (.string ⟨#[]⟩) (.bool false) (.bool false))
  clear h0 h1 h2 r0 r1 r2 g0 g1 g2
  have hcl : HearR w C base (.slice B n cp) ⟨cm, pm, cf, cw, cl, true, true⟩ none false (.returned (.tuple #[.agg (heardC (none : Option Msg) false), .int .i64 0])) (setPt w9 (w.heap.size + 1) (strV (tb (none : Option Msg))) (.bool (Option.isSome (none : Option Msg))) (.bool false)) := hear_close (v' := .slice B n cp) HA.out hlt (HWn.out) HNE.out (fun _ h => h)
  refine bodyPost_ret (results_cell_tmp_row rfl _ _ (w.heap.size + 1) 74 _ (0, 0) _ rfl (setPt_blk _ _ _ HA.out.r) Try.underlying74 rfl (by kernel_rfl)) rfl ?_
  exact hcl

set_option maxHeartbeats 1000000 in
set_option maxRecDepth 100000 in
theorem hearL_tt (C base : Nat) (v : Value) (cm cf cl : Int) (cmet _cowes : Bool) (cw : List Msg) (pm pa ps : Int) (px : Option Msg) {k : Int} (w : World)
    (hC : ChanAt w C base v ⟨cm, pm, cf, cw, cl, cmet, true⟩) (hp : PkCan pm cm pa ps (tb px)) (hs : 0 < ps) (hf0 : 0 ≤ cf) (hf1 : cf ≤ 1099511627776) (hl0 : 0 ≤ cl) (hl1 : cl ≤ 1099511627776) (hk : min (pa - cf + 1) (cw.length : Int) = k) (hk0 : ¬ 0 < k) (_hlw : cw.length ≤ 1099511627776) (ht : ps = cl + 1) (hx : px.isSome = true) :
    Calls Try.prog 24 #[.pointer (some ⟨C, 0, none⟩), pkV pm cm pa ps (tb px)] w (HearR w C base v ⟨cm, pm, cf, cw, cl + 1, true, true⟩ px false) := by
  have K1 := Lib.hid (fun w => scheck_any pm cm pa ps (tb px) w hp)
  obtain ⟨B, cp, rfl, hnc, hrd⟩ := hC.wait.form
  have hlt := hC.blk.lt
  have HRd := Lib.hid hrd
  obtain ⟨n, hn⟩ : ∃ n, cw.length = n := ⟨_, rfl⟩
  have HN := Lib.hid hn
  change cw.length ≤ cp at hnc
  have HBn : Hid (Blk w C 83 (chanC ⟨cm, pm, cf, cw, cl, cmet, true⟩ (.slice B n cp))) := by rw [← hn]; exact hC.blk
  have HWn : Hid (WaitAt w base (.slice B n cp) cw.length (txtL cw)) := by have := hC.wait; rw [← hn]; exact this
  have HNE : Hid (C ∉ rowOf (.slice B n cp)) := by rw [← hn]; exact hC.ne
  rw [hn] at hnc
  rw [hn] at _hlw
  have e3 : decide (0 < ps) = true := by simpa using hs
  have k1 : IntKind.i64.wrap (pa - cf) = pa - cf := IntWalk.i64_in _ (by have := hp.c0; have := hp.c1; omega)
  have k2 : IntKind.i64.wrap (pa - cf + 1) = pa - cf + 1 := IntWalk.i64_in _ (by have := hp.c0; have := hp.c1; omega)
  have hk2 : min (pa - cf + 1) (n : Int) = k := by rw [← hk, hn]
  have e6 : decide (0 < k) = false := by simp; omega
  clear hk hk0
  have k4 : IntKind.i64.wrap (cl + 1) = cl + 1 := IntWalk.i64_in _ (by omega)
  have e9 : (ps == cl + 1) = true := by simpa using ht
  have HX := Lib.hid hx
  clear ht hx
  clear hf0 hf1 hl0 hl1
  clear hs
  clear hp hC hrd hn
  change Calls _ _ _ _ (HearR w C base (.slice B cw.length cp) _ _ _)
  rw [HN.out]
  go_enter Try.func24, Try.ntmps24
  go_wp2_with fail
  (with_reducible refine (K1.out _).mono ?_)
  rintro e w1 ⟨rfl, hg1⟩
  have HA := Lib.hid (hear_start HBn.out hg1)
  clear hg1
  have q0 : w1.cell? ⟨w.heap.size, 0, none⟩ = some (i64 pm) := HA.out.q.cell 0
  have c1 : w1.cell? ⟨C, 1, none⟩ = some (i64 pm) := HA.out.c.cell 1
  go_wp2_with fail
  go_quiet (fail)
  rename_i nq
  have HA2 : Hid (HearAt w (w1.drewN nq) C #[i64 pm, i64 cm, i64 pa, i64 ps, strV (tb px)] #[.string ⟨#[]⟩, .bool false, .bool false] #[.string ⟨#[]⟩, .bool false, .bool false] #[i64 cm, i64 pm, i64 cf, .slice B n cp, i64 cl, .bool cmet, .bool true]) := HA.out.drewN nq
  clear q0 c1
  clear HA
  generalize w1.drewN nq = w2 at HA2 ⊢
  have HA := HA2
  clear HA2
  have q0 : w2.cell? ⟨w.heap.size, 0, none⟩ = some (i64 pm) := HA.out.q.cell 0
  have c1 : w2.cell? ⟨C, 1, none⟩ = some (i64 pm) := HA.out.c.cell 1
  go_wp2_with fail
  go_quiet (fail)
  rename_i nq
  have HA3 : Hid (HearAt w (w2.drewN nq) C #[i64 pm, i64 cm, i64 pa, i64 ps, strV (tb px)] #[.string ⟨#[]⟩, .bool false, .bool false] #[.string ⟨#[]⟩, .bool false, .bool false] #[i64 cm, i64 pm, i64 cf, .slice B n cp, i64 cl, .bool cmet, .bool true]) := HA.out.drewN nq
  clear q0 c1
  clear HA
  generalize w2.drewN nq = w3 at HA3 ⊢
  have HA := HA3
  clear HA3
  have q1 : w3.cell? ⟨w.heap.size, 1, none⟩ = some (i64 cm) := HA.out.q.cell 1
  have q3 : w3.cell? ⟨w.heap.size, 3, none⟩ = some (i64 ps) := HA.out.q.cell 3
  have h2 : w3.cell? ⟨w.heap.size + 1 + 1, 2, none⟩ = some (.bool false) := HA.out.h.cell 2
  have c0 : w3.cell? ⟨C, 0, none⟩ = some (i64 cm) := HA.out.c.cell 0
  have c6 : w3.cell? ⟨C, 6, none⟩ = some (.bool true) := HA.out.c.cell 6
  go_wp2_with fail
  refine wp_region_still_tail 25 (by kernel_rfl) (by kernel_rfl) ?_
  simp only [List.take_succ_cons, List.take_zero, List.drop_succ_cons, List.drop_zero]
  repeat (with_reducible refine wpStill_step ?_; intro K hK; go_simp; with_reducible refine hK _ ?_; clear hK K)
  with_reducible refine wpStill_nil ?_
  change wpList _ _ _ _ _ w3.drew
  have HA4 : Hid (HearAt w (w3.drew) C #[i64 pm, i64 cm, i64 pa, i64 ps, strV (tb px)] #[.string ⟨#[]⟩, .bool false, .bool false] #[.string ⟨#[]⟩, .bool false, .bool false] #[i64 cm, i64 pm, i64 cf, .slice B n cp, i64 cl, .bool cmet, .bool true]) := HA.out.drew
  clear q1 q3 h2 c0 c6
  clear HA
  generalize w3.drew = w4 at HA4 ⊢
  have HA := HA4
  clear HA4
  have c6 : w4.cell? ⟨C, 6, none⟩ = some (.bool true) := HA.out.c.cell 6
  have f6 : w4.frozen? ⟨C, 6, none⟩ = false := HA.out.c.frozen 6
  go_wp2_with fail
  have HA5 : Hid (HearAt w (w4.setCell ⟨C, 6, none⟩ (.bool true)) C #[i64 pm, i64 cm, i64 pa, i64 ps, strV (tb px)] #[.string ⟨#[]⟩, .bool false, .bool false] #[.string ⟨#[]⟩, .bool false, .bool false] #[i64 cm, i64 pm, i64 cf, .slice B n cp, i64 cl, .bool cmet, .bool true]) := HA.out.setC hlt 6 _
  clear c6 f6
  clear HA
  generalize w4.setCell ⟨C, 6, none⟩ (.bool true) = w5 at HA5 ⊢
  have HA := HA5
  clear HA5
  have q1 : w5.cell? ⟨w.heap.size, 1, none⟩ = some (i64 cm) := HA.out.q.cell 1
  have c0 : w5.cell? ⟨C, 0, none⟩ = some (i64 cm) := HA.out.c.cell 0
  go_wp2_with fail
  go_quiet (fail)
  rename_i nq
  have HA6 : Hid (HearAt w (w5.drewN nq) C #[i64 pm, i64 cm, i64 pa, i64 ps, strV (tb px)] #[.string ⟨#[]⟩, .bool false, .bool false] #[.string ⟨#[]⟩, .bool false, .bool false] #[i64 cm, i64 pm, i64 cf, .slice B n cp, i64 cl, .bool cmet, .bool true]) := HA.out.drewN nq
  clear q1 c0
  clear HA
  generalize w5.drewN nq = w6 at HA6 ⊢
  have HA := HA6
  clear HA6
  have c5 : w6.cell? ⟨C, 5, none⟩ = some (.bool cmet) := HA.out.c.cell 5
  have f5 : w6.frozen? ⟨C, 5, none⟩ = false := HA.out.c.frozen 5
  go_wp2_with fail
  have HA7 : Hid (HearAt w (w6.setCell ⟨C, 5, none⟩ (.bool true)) C #[i64 pm, i64 cm, i64 pa, i64 ps, strV (tb px)] #[.string ⟨#[]⟩, .bool false, .bool false] #[.string ⟨#[]⟩, .bool false, .bool false] #[i64 cm, i64 pm, i64 cf, .slice B n cp, i64 cl, .bool true, .bool true]) := HA.out.setC hlt 5 _
  clear c5 f5
  clear HA
  generalize w6.setCell ⟨C, 5, none⟩ (.bool true) = w7 at HA7 ⊢
  have HA := HA7
  clear HA7
  have q2 : w7.cell? ⟨w.heap.size, 2, none⟩ = some (i64 pa) := HA.out.q.cell 2
  have c2 : w7.cell? ⟨C, 2, none⟩ = some (i64 cf) := HA.out.c.cell 2
  have c3 : w7.cell? ⟨C, 3, none⟩ = some (.slice B n cp) := HA.out.c.cell 3
  go_wp2_with fail
  go_quiet (fail)
  rename_i nq
  have HA8 : Hid (HearAt w (w7.drewN nq) C #[i64 pm, i64 cm, i64 pa, i64 ps, strV (tb px)] #[.string ⟨#[]⟩, .bool false, .bool false] #[.string ⟨#[]⟩, .bool false, .bool false] #[i64 cm, i64 pm, i64 cf, .slice B n cp, i64 cl, .bool true, .bool true]) := HA.out.drewN nq
  clear q2 c2 c3
  clear HA
  generalize w7.drewN nq = w8 at HA8 ⊢
  have HA := HA8
  clear HA8
  have q3 : w8.cell? ⟨w.heap.size, 3, none⟩ = some (i64 ps) := HA.out.q.cell 3
  have c4 : w8.cell? ⟨C, 4, none⟩ = some (i64 cl) := HA.out.c.cell 4
  go_wp2_with fail
  go_quiet (fail)
  rename_i nq
  have HA9 : Hid (HearAt w (w8.drewN nq) C #[i64 pm, i64 cm, i64 pa, i64 ps, strV (tb px)] #[.string ⟨#[]⟩, .bool false, .bool false] #[.string ⟨#[]⟩, .bool false, .bool false] #[i64 cm, i64 pm, i64 cf, .slice B n cp, i64 cl, .bool true, .bool true]) := HA.out.drewN nq
  clear q3 c4
  clear HA
  generalize w8.drewN nq = w9 at HA9 ⊢
  have HA := HA9
  clear HA9
  have h0 : w9.cell? ⟨w.heap.size + 1 + 1, 0, none⟩ = some (.string ⟨#[]⟩) := HA.out.h.cell 0
  have h1 : w9.cell? ⟨w.heap.size + 1 + 1, 1, none⟩ = some (.bool false) := HA.out.h.cell 1
  have h2 : w9.cell? ⟨w.heap.size + 1 + 1, 2, none⟩ = some (.bool false) := HA.out.h.cell 2
  have r0 : w9.cell? ⟨w.heap.size + 1, 0, none⟩ = some (.string ⟨#[]⟩) := HA.out.r.cell 0
  have r1 : w9.cell? ⟨w.heap.size + 1, 1, none⟩ = some (.bool false) := HA.out.r.cell 1
  have r2 : w9.cell? ⟨w.heap.size + 1, 2, none⟩ = some (.bool false) := HA.out.r.cell 2
  have c4 : w9.cell? ⟨C, 4, none⟩ = some (i64 cl) := HA.out.c.cell 4
  have q4 : w9.cell? ⟨w.heap.size, 4, none⟩ = some (strV (tb px)) := HA.out.q.cell 4
  have g0 : w9.frozen? ⟨w.heap.size + 1, 0, none⟩ = false := HA.out.r.frozen 0
  have g1 : w9.frozen? ⟨w.heap.size + 1, 1, none⟩ = false := HA.out.r.frozen 1
  have g2 : w9.frozen? ⟨w.heap.size + 1, 2, none⟩ = false := HA.out.r.frozen 2
  have f4 : w9.frozen? ⟨C, 4, none⟩ = false := HA.out.c.frozen 4
  have m0 : w9.frozen? ⟨w.heap.size + 1 + 1, 0, none⟩ = false := HA.out.h.frozen 0
  have m1 : w9.frozen? ⟨w.heap.size + 1 + 1, 1, none⟩ = false := HA.out.h.frozen 1
  go_wp2_with fail
  change bodyPost _ _ _ _ _ (setPt (((w9.setCell ⟨C, 4, none⟩ (i64 (cl + 1))).setCell ⟨w.heap.size + 1 + 1, 0, none⟩ (strV (tb px))).setCell ⟨w.heap.size + 1 + 1, 1, none⟩ (.bool true)) (w.heap.size + 1) (strV (tb px)) (.bool true) (.bool false))
  have HA10 : Hid (HearAt w (w9.setCell ⟨C, 4, none⟩ (i64 (cl + 1))) C #[i64 pm, i64 cm, i64 pa, i64 ps, strV (tb px)] #[.string ⟨#[]⟩, .bool false, .bool false] #[.string ⟨#[]⟩, .bool false, .bool false] #[i64 cm, i64 pm, i64 cf, .slice B n cp, i64 (cl + 1), .bool true, .bool true]) := HA.out.setC hlt 4 _
  clear h0 h1 h2 r0 r1 r2 c4 q4 g0 g1 g2 f4 m0 m1
  clear HA
  generalize w9.setCell ⟨C, 4, none⟩ (i64 (cl + 1)) = w10 at HA10 ⊢
  have HA := HA10
  clear HA10
  have HA11 : Hid (HearAt w (w10.setCell ⟨w.heap.size + 1 + 1, 0, none⟩ (strV (tb px))) C #[i64 pm, i64 cm, i64 pa, i64 ps, strV (tb px)] #[.string ⟨#[]⟩, .bool false, .bool false] #[strV (tb px), .bool false, .bool false] #[i64 cm, i64 pm, i64 cf, .slice B n cp, i64 (cl + 1), .bool true, .bool true]) := HA.out.setH hlt 0 _
  clear HA
  generalize w10.setCell ⟨w.heap.size + 1 + 1, 0, none⟩ (strV (tb px)) = w11 at HA11 ⊢
  have HA := HA11
  clear HA11
  have HA12 : Hid (HearAt w (w11.setCell ⟨w.heap.size + 1 + 1, 1, none⟩ (.bool true)) C #[i64 pm, i64 cm, i64 pa, i64 ps, strV (tb px)] #[.string ⟨#[]⟩, .bool false, .bool false] #[strV (tb px), .bool true, .bool false] #[i64 cm, i64 pm, i64 cf, .slice B n cp, i64 (cl + 1), .bool true, .bool true]) := HA.out.setH hlt 1 _
  clear HA
  generalize w11.setCell ⟨w.heap.size + 1 + 1, 1, none⟩ (.bool true) = w12 at HA12 ⊢
  have HA := HA12
  clear HA12
  have hcl : HearR w C base (.slice B n cp) ⟨cm, pm, cf, cw, cl + 1, true, true⟩ px false (.returned (.tuple #[.agg (heardC px false), .int .i64 0])) (setPt w12 (w.heap.size + 1) (strV (tb px)) (.bool (Option.isSome px)) (.bool false)) := hear_close (v' := .slice B n cp) HA.out hlt (HWn.out) HNE.out (fun _ h => h)
  have hx := HX.out
  rw [hx] at hcl
  refine bodyPost_ret (results_cell_tmp_row rfl _ _ (w.heap.size + 1) 74 _ (0, 0) _ rfl (setPt_blk _ _ _ HA.out.r) Try.underlying74 rfl (by kernel_rfl)) rfl ?_
  simp only [heardC, hx] at hcl
  exact hcl
end Go.Proofs.Yteajdkneiejlaaa
