/- The walk of Hear, some ways. (made by a small program) -/
import Derived.Test.YteajdkneiejlaaaGHear
namespace Go.Proofs.Yteajdkneiejlaaa
open Go.RowKit Hg

set_option maxHeartbeats 1000000 in
set_option maxRecDepth 100000 in
theorem hearL_tan (C base : Nat) (v : Value) (cm cf cl : Int) (cmet _cowes : Bool) (cw : List Msg) (pm pa ps : Int) (px : Option Msg) {kn : Nat} (w : World)
    (hC : ChanAt w C base v ⟨cm, pm, cf, cw, cl, cmet, true⟩) (hp : PkCan pm cm pa ps (tb px)) (hs : ¬ 0 < ps) (hf0 : 0 ≤ cf) (hf1 : cf ≤ 1099511627776) (_hl0 : 0 ≤ cl) (_hl1 : cl ≤ 1099511627776) (hk : min (pa - cf + 1) (cw.length : Int) = (kn : Int)) (hk0 : 0 < kn) (hlw : cw.length ≤ 1099511627776) :
    Calls Try.prog 24 #[.pointer (some ⟨C, 0, none⟩), pkV pm cm pa ps (tb px)] w (HearR w C base v ⟨cm, pm, cf + (kn : Int), cw.drop kn, cl, true, true⟩ none false) := by
  have K1 := Lib.hid (fun w => scheck_any pm cm pa ps (tb px) w hp)
  obtain ⟨B, cp, rfl, hnc, hrd⟩ := hC.wait.form
  have hlt := hC.blk.lt
  have HRd := Lib.hid hrd
  obtain ⟨n, hn⟩ : ∃ n, cw.length = n := ⟨_, rfl⟩
  have HN := Lib.hid hn
  change cw.length ≤ cp at hnc
  have HBn : Hid (Blk w C 83 (chanC ⟨cm, pm, cf, cw, cl, cmet, true⟩ (.slice B n cp))) := by rw [← hn]; exact hC.blk
  have HWn : Hid (WaitAt w base (.slice B n cp) cw.length (txtL cw)) := by have := hC.wait; rw [← hn]; exact this
  have HNE : Hid (C ∉ rowOf (.slice B n cp)) := by rw [← hn]; exact hC.ne
  rw [hn] at hnc
  rw [hn] at hlw
  have e3 : decide (0 < ps) = false := by simpa using hs
  have k1 : IntKind.i64.wrap (pa - cf) = pa - cf := IntWalk.i64_in _ (by have := hp.c0; have := hp.c1; omega)
  have k2 : IntKind.i64.wrap (pa - cf + 1) = pa - cf + 1 := IntWalk.i64_in _ (by have := hp.c0; have := hp.c1; omega)
  have hk2 : min (pa - cf + 1) (n : Int) = (kn : Int) := by rw [← hk, hn]
  have e7 : kn ≤ n := by omega
  have e8 : 0 < kn := by omega
  have k3 : IntKind.i64.wrap (cf + (kn : Int)) = cf + (kn : Int) := IntWalk.i64_in _ (by omega)
  have HE := Lib.hid (And.intro e7 e8)
  clear hk hk0
  clear hf0 hf1 _hl0 _hl1
  clear hs
  clear hp hC hrd hn
  change Calls _ _ _ _ (HearR w C base (.slice B cw.length cp) _ _ _)
  rw [HN.out]
  go_enter Try.func24, Try.ntmps24
  go_wp2_with fail
  (with_reducible refine (K1.out _).mono ?_)
  rintro e w1 ⟨rfl, hg1⟩
  have HA := Lib.hid (hear_start HBn.out hg1)
  clear hg1
  have q0 : w1.cell? ⟨w.heap.size, 0, none⟩ = some (i64 pm) := HA.out.q.cell 0
  have c1 : w1.cell? ⟨C, 1, none⟩ = some (i64 pm) := HA.out.c.cell 1
  go_wp2_with fail
  go_quiet (fail)
  rename_i nq
  have HA2 : Hid (HearAt w (w1.drewN nq) C #[i64 pm, i64 cm, i64 pa, i64 ps, strV (tb px)] #[.string ⟨#[]⟩, .bool false, .bool false] #[.string ⟨#[]⟩, .bool false, .bool false] #[i64 cm, i64 pm, i64 cf, .slice B n cp, i64 cl, .bool cmet, .bool true]) := HA.out.drewN nq
  clear q0 c1
  clear HA
  generalize w1.drewN nq = w2 at HA2 ⊢
  have HA := HA2
  clear HA2
  have q0 : w2.cell? ⟨w.heap.size, 0, none⟩ = some (i64 pm) := HA.out.q.cell 0
  have c1 : w2.cell? ⟨C, 1, none⟩ = some (i64 pm) := HA.out.c.cell 1
  go_wp2_with fail
  go_quiet (fail)
  rename_i nq
  have HA3 : Hid (HearAt w (w2.drewN nq) C #[i64 pm, i64 cm, i64 pa, i64 ps, strV (tb px)] #[.string ⟨#[]⟩, .bool false, .bool false] #[.string ⟨#[]⟩, .bool false, .bool false] #[i64 cm, i64 pm, i64 cf, .slice B n cp, i64 cl, .bool cmet, .bool true]) := HA.out.drewN nq
  clear q0 c1
  clear HA
  generalize w2.drewN nq = w3 at HA3 ⊢
  have HA := HA3
  clear HA3
  have q1 : w3.cell? ⟨w.heap.size, 1, none⟩ = some (i64 cm) := HA.out.q.cell 1
  have q3 : w3.cell? ⟨w.heap.size, 3, none⟩ = some (i64 ps) := HA.out.q.cell 3
  have h2 : w3.cell? ⟨w.heap.size + 1 + 1, 2, none⟩ = some (.bool false) := HA.out.h.cell 2
  have c0 : w3.cell? ⟨C, 0, none⟩ = some (i64 cm) := HA.out.c.cell 0
  have c6 : w3.cell? ⟨C, 6, none⟩ = some (.bool true) := HA.out.c.cell 6
  go_wp2_with fail
  refine wp_region_still_tail 25 (by kernel_rfl) (by kernel_rfl) ?_
  simp only [List.take_succ_cons, List.take_zero, List.drop_succ_cons, List.drop_zero]
  repeat (with_reducible refine wpStill_step ?_; intro K hK; go_simp; with_reducible refine hK _ ?_; clear hK K)
  with_reducible refine wpStill_nil ?_
  change wpList _ _ _ _ _ w3.drew
  have HA4 : Hid (HearAt w (w3.drew) C #[i64 pm, i64 cm, i64 pa, i64 ps, strV (tb px)] #[.string ⟨#[]⟩, .bool false, .bool false] #[.string ⟨#[]⟩, .bool false, .bool false] #[i64 cm, i64 pm, i64 cf, .slice B n cp, i64 cl, .bool cmet, .bool true]) := HA.out.drew
  clear q1 q3 h2 c0 c6
  clear HA
  generalize w3.drew = w4 at HA4 ⊢
  have HA := HA4
  clear HA4
  have c6 : w4.cell? ⟨C, 6, none⟩ = some (.bool true) := HA.out.c.cell 6
  have f6 : w4.frozen? ⟨C, 6, none⟩ = false := HA.out.c.frozen 6
  go_wp2_with fail
  have HA5 : Hid (HearAt w (w4.setCell ⟨C, 6, none⟩ (.bool true)) C #[i64 pm, i64 cm, i64 pa, i64 ps, strV (tb px)] #[.string ⟨#[]⟩, .bool false, .bool false] #[.string ⟨#[]⟩, .bool false, .bool false] #[i64 cm, i64 pm, i64 cf, .slice B n cp, i64 cl, .bool cmet, .bool true]) := HA.out.setC hlt 6 _
  clear c6 f6
  clear HA
  generalize w4.setCell ⟨C, 6, none⟩ (.bool true) = w5 at HA5 ⊢
  have HA := HA5
  clear HA5
  have q1 : w5.cell? ⟨w.heap.size, 1, none⟩ = some (i64 cm) := HA.out.q.cell 1
  have c0 : w5.cell? ⟨C, 0, none⟩ = some (i64 cm) := HA.out.c.cell 0
  go_wp2_with fail
  go_quiet (fail)
  rename_i nq
  have HA6 : Hid (HearAt w (w5.drewN nq) C #[i64 pm, i64 cm, i64 pa, i64 ps, strV (tb px)] #[.string ⟨#[]⟩, .bool false, .bool false] #[.string ⟨#[]⟩, .bool false, .bool false] #[i64 cm, i64 pm, i64 cf, .slice B n cp, i64 cl, .bool cmet, .bool true]) := HA.out.drewN nq
  clear q1 c0
  clear HA
  generalize w5.drewN nq = w6 at HA6 ⊢
  have HA := HA6
  clear HA6
  have c5 : w6.cell? ⟨C, 5, none⟩ = some (.bool cmet) := HA.out.c.cell 5
  have f5 : w6.frozen? ⟨C, 5, none⟩ = false := HA.out.c.frozen 5
  go_wp2_with fail
  have HA7 : Hid (HearAt w (w6.setCell ⟨C, 5, none⟩ (.bool true)) C #[i64 pm, i64 cm, i64 pa, i64 ps, strV (tb px)] #[.string ⟨#[]⟩, .bool false, .bool false] #[.string ⟨#[]⟩, .bool false, .bool false] #[i64 cm, i64 pm, i64 cf, .slice B n cp, i64 cl, .bool true, .bool true]) := HA.out.setC hlt 5 _
  clear c5 f5
  clear HA
  generalize w6.setCell ⟨C, 5, none⟩ (.bool true) = w7 at HA7 ⊢
  have HA := HA7
  clear HA7
  have q2 : w7.cell? ⟨w.heap.size, 2, none⟩ = some (i64 pa) := HA.out.q.cell 2
  have c2 : w7.cell? ⟨C, 2, none⟩ = some (i64 cf) := HA.out.c.cell 2
  have c3 : w7.cell? ⟨C, 3, none⟩ = some (.slice B n cp) := HA.out.c.cell 3
  go_wp2_with fail
  go_quiet (fail)
  rename_i nq
  have HA8 : Hid (HearAt w (w7.drewN nq) C #[i64 pm, i64 cm, i64 pa, i64 ps, strV (tb px)] #[.string ⟨#[]⟩, .bool false, .bool false] #[.string ⟨#[]⟩, .bool false, .bool false] #[i64 cm, i64 pm, i64 cf, .slice B n cp, i64 cl, .bool true, .bool true]) := HA.out.drewN nq
  clear q2 c2 c3
  clear HA
  generalize w7.drewN nq = w8 at HA8 ⊢
  have HA := HA8
  clear HA8
  have c3 : w8.cell? ⟨C, 3, none⟩ = some (.slice B n cp) := HA.out.c.cell 3
  go_wp2_with fail
  refine wp_region_still_tail 17 (by kernel_rfl) (by kernel_rfl) ?_
  simp only [List.take_succ_cons, List.take_zero, List.drop_succ_cons, List.drop_zero]
  repeat (with_reducible refine wpStill_step ?_; intro K hK; go_simp; with_reducible refine hK _ ?_; clear hK K)
  with_reducible refine wpStill_nil ?_
  change wpList _ _ _ _ _ w8.drew
  have HA9 : Hid (HearAt w (w8.drew) C #[i64 pm, i64 cm, i64 pa, i64 ps, strV (tb px)] #[.string ⟨#[]⟩, .bool false, .bool false] #[.string ⟨#[]⟩, .bool false, .bool false] #[i64 cm, i64 pm, i64 cf, .slice B n cp, i64 cl, .bool true, .bool true]) := HA.out.drew
  clear c3
  clear HA
  generalize w8.drew = w9 at HA9 ⊢
  have HA := HA9
  clear HA9
  obtain ⟨B2, hB2⟩ : ∃ B2, (if n = kn then B else Option.map (fun x => x.add kn) B) = B2 := ⟨_, rfl⟩
  rw [hB2]
  have HB2 := Lib.hid hB2
  clear hB2
  have c2 : w9.cell? ⟨C, 2, none⟩ = some (i64 cf) := HA.out.c.cell 2
  have c3 : w9.cell? ⟨C, 3, none⟩ = some (.slice B n cp) := HA.out.c.cell 3
  have f2 : w9.frozen? ⟨C, 2, none⟩ = false := HA.out.c.frozen 2
  have f3 : w9.frozen? ⟨C, 3, none⟩ = false := HA.out.c.frozen 3
  go_wp2_with fail
  have HA10 : Hid (HearAt w (w9.setCell ⟨C, 3, none⟩ (.slice B2 (n - kn) (n - kn))) C #[i64 pm, i64 cm, i64 pa, i64 ps, strV (tb px)] #[.string ⟨#[]⟩, .bool false, .bool false] #[.string ⟨#[]⟩, .bool false, .bool false] #[i64 cm, i64 pm, i64 cf, .slice B2 (n - kn) (n - kn), i64 cl, .bool true, .bool true]) := HA.out.setC hlt 3 _
  clear c2 c3 f2 f3
  clear HA
  generalize w9.setCell ⟨C, 3, none⟩ (.slice B2 (n - kn) (n - kn)) = w10 at HA10 ⊢
  have HA := HA10
  clear HA10
  have HA11 : Hid (HearAt w (w10.setCell ⟨C, 2, none⟩ (i64 (cf + (kn : Int)))) C #[i64 pm, i64 cm, i64 pa, i64 ps, strV (tb px)] #[.string ⟨#[]⟩, .bool false, .bool false] #[.string ⟨#[]⟩, .bool false, .bool false] #[i64 cm, i64 pm, i64 (cf + (kn : Int)), .slice B2 (n - kn) (n - kn), i64 cl, .bool true, .bool true]) := HA.out.setC hlt 2 _
  clear HA
  generalize w10.setCell ⟨C, 2, none⟩ (i64 (cf + (kn : Int))) = w11 at HA11 ⊢
  have HA := HA11
  clear HA11
  have q3 : w11.cell? ⟨w.heap.size, 3, none⟩ = some (i64 ps) := HA.out.q.cell 3
  go_wp2_with fail
  go_quiet (fail)
  rename_i nq
  have HA12 : Hid (HearAt w (w11.drewN nq) C #[i64 pm, i64 cm, i64 pa, i64 ps, strV (tb px)] #[.string ⟨#[]⟩, .bool false, .bool false] #[.string ⟨#[]⟩, .bool false, .bool false] #[i64 cm, i64 pm, i64 (cf + (kn : Int)), .slice B2 (n - kn) (n - kn), i64 cl, .bool true, .bool true]) := HA.out.drewN nq
  clear q3
  clear HA
  generalize w11.drewN nq = w12 at HA12 ⊢
  have HA := HA12
  clear HA12
  have h0 : w12.cell? ⟨w.heap.size + 1 + 1, 0, none⟩ = some (.string ⟨#[]⟩) := HA.out.h.cell 0
  have h1 : w12.cell? ⟨w.heap.size + 1 + 1, 1, none⟩ = some (.bool false) := HA.out.h.cell 1
  have h2 : w12.cell? ⟨w.heap.size + 1 + 1, 2, none⟩ = some (.bool false) := HA.out.h.cell 2
  have r0 : w12.cell? ⟨w.heap.size + 1, 0, none⟩ = some (.string ⟨#[]⟩) := HA.out.r.cell 0
  have r1 : w12.cell? ⟨w.heap.size + 1, 1, none⟩ = some (.bool false) := HA.out.r.cell 1
  have r2 : w12.cell? ⟨w.heap.size + 1, 2, none⟩ = some (.bool false) := HA.out.r.cell 2
  have g0 : w12.frozen? ⟨w.heap.size + 1, 0, none⟩ = false := HA.out.r.frozen 0
  have g1 : w12.frozen? ⟨w.heap.size + 1, 1, none⟩ = false := HA.out.r.frozen 1
  have g2 : w12.frozen? ⟨w.heap.size + 1, 2, none⟩ = false := HA.out.r.frozen 2
  go_wp2_with fail
  change bodyPost _ _ _ _ _ (setPt w12 (w.heap.size + 1) (.string ⟨#[]⟩) (.bool false) (.bool false))
  clear h0 h1 h2 r0 r1 r2 g0 g1 g2
  have hcl : HearR w C base (.slice B n cp) ⟨cm, pm, cf + (kn : Int), cw.drop kn, cl, true, true⟩ none false (.returned (.tuple #[.agg (heardC (none : Option Msg) false), .int .i64 0])) (setPt w12 (w.heap.size + 1) (strV (tb (none : Option Msg))) (.bool (Option.isSome (none : Option Msg))) (.bool false)) := hear_close (v' := .slice B2 (n - kn) (n - kn)) HA.out hlt (by rw [← HB2.out]; exact wait_cut HWn.out HN.out HE.out.1) (fun hm => HNE.out (row_cut (by rw [HB2.out]; exact hm))) (fun q hq => row_cut (by rw [HB2.out]; exact hq))
  refine bodyPost_ret (results_cell_tmp_row rfl _ _ (w.heap.size + 1) 74 _ (0, 0) _ rfl (setPt_blk _ _ _ HA.out.r) Try.underlying74 rfl (by kernel_rfl)) rfl ?_
  exact hcl

set_option maxHeartbeats 1000000 in
set_option maxRecDepth 100000 in
theorem hearL_tas (C base : Nat) (v : Value) (cm cf cl : Int) (cmet _cowes : Bool) (cw : List Msg) (pm pa ps : Int) (px : Option Msg) {kn : Nat} (w : World)
    (hC : ChanAt w C base v ⟨cm, pm, cf, cw, cl, cmet, true⟩) (hp : PkCan pm cm pa ps (tb px)) (hs : 0 < ps) (hf0 : 0 ≤ cf) (hf1 : cf ≤ 1099511627776) (hl0 : 0 ≤ cl) (hl1 : cl ≤ 1099511627776) (hk : min (pa - cf + 1) (cw.length : Int) = (kn : Int)) (hk0 : 0 < kn) (hlw : cw.length ≤ 1099511627776) (ht : ps ≠ cl + 1) :
    Calls Try.prog 24 #[.pointer (some ⟨C, 0, none⟩), pkV pm cm pa ps (tb px)] w (HearR w C base v ⟨cm, pm, cf + (kn : Int), cw.drop kn, cl, true, true⟩ none false) := by
  have K1 := Lib.hid (fun w => scheck_any pm cm pa ps (tb px) w hp)
  obtain ⟨B, cp, rfl, hnc, hrd⟩ := hC.wait.form
  have hlt := hC.blk.lt
  have HRd := Lib.hid hrd
  obtain ⟨n, hn⟩ : ∃ n, cw.length = n := ⟨_, rfl⟩
  have HN := Lib.hid hn
  change cw.length ≤ cp at hnc
  have HBn : Hid (Blk w C 83 (chanC ⟨cm, pm, cf, cw, cl, cmet, true⟩ (.slice B n cp))) := by rw [← hn]; exact hC.blk
  have HWn : Hid (WaitAt w base (.slice B n cp) cw.length (txtL cw)) := by have := hC.wait; rw [← hn]; exact this
  have HNE : Hid (C ∉ rowOf (.slice B n cp)) := by rw [← hn]; exact hC.ne
  rw [hn] at hnc
  rw [hn] at hlw
  have e3 : decide (0 < ps) = true := by simpa using hs
  have k1 : IntKind.i64.wrap (pa - cf) = pa - cf := IntWalk.i64_in _ (by have := hp.c0; have := hp.c1; omega)
  have k2 : IntKind.i64.wrap (pa - cf + 1) = pa - cf + 1 := IntWalk.i64_in _ (by have := hp.c0; have := hp.c1; omega)
  have hk2 : min (pa - cf + 1) (n : Int) = (kn : Int) := by rw [← hk, hn]
  have e7 : kn ≤ n := by omega
  have e8 : 0 < kn := by omega
  have k3 : IntKind.i64.wrap (cf + (kn : Int)) = cf + (kn : Int) := IntWalk.i64_in _ (by omega)
  have HE := Lib.hid (And.intro e7 e8)
  clear hk hk0
  have k4 : IntKind.i64.wrap (cl + 1) = cl + 1 := IntWalk.i64_in _ (by omega)
  have e9 : (ps == cl + 1) = false := by simpa using ht
  clear ht
  clear hf0 hf1 hl0 hl1
  clear hs
  clear hp hC hrd hn
  change Calls _ _ _ _ (HearR w C base (.slice B cw.length cp) _ _ _)
  rw [HN.out]
  go_enter Try.func24, Try.ntmps24
  go_wp2_with fail
  (with_reducible refine (K1.out _).mono ?_)
  rintro e w1 ⟨rfl, hg1⟩
  have HA := Lib.hid (hear_start HBn.out hg1)
  clear hg1
  have q0 : w1.cell? ⟨w.heap.size, 0, none⟩ = some (i64 pm) := HA.out.q.cell 0
  have c1 : w1.cell? ⟨C, 1, none⟩ = some (i64 pm) := HA.out.c.cell 1
  go_wp2_with fail
  go_quiet (fail)
  rename_i nq
  have HA2 : Hid (HearAt w (w1.drewN nq) C #[i64 pm, i64 cm, i64 pa, i64 ps, strV (tb px)] #[.string ⟨#[]⟩, .bool false, .bool false] #[.string ⟨#[]⟩, .bool false, .bool false] #[i64 cm, i64 pm, i64 cf, .slice B n cp, i64 cl, .bool cmet, .bool true]) := HA.out.drewN nq
  clear q0 c1
  clear HA
  generalize w1.drewN nq = w2 at HA2 ⊢
  have HA := HA2
  clear HA2
  have q0 : w2.cell? ⟨w.heap.size, 0, none⟩ = some (i64 pm) := HA.out.q.cell 0
  have c1 : w2.cell? ⟨C, 1, none⟩ = some (i64 pm) := HA.out.c.cell 1
  go_wp2_with fail
  go_quiet (fail)
  rename_i nq
  have HA3 : Hid (HearAt w (w2.drewN nq) C #[i64 pm, i64 cm, i64 pa, i64 ps, strV (tb px)] #[.string ⟨#[]⟩, .bool false, .bool false] #[.string ⟨#[]⟩, .bool false, .bool false] #[i64 cm, i64 pm, i64 cf, .slice B n cp, i64 cl, .bool cmet, .bool true]) := HA.out.drewN nq
  clear q0 c1
  clear HA
  generalize w2.drewN nq = w3 at HA3 ⊢
  have HA := HA3
  clear HA3
  have q1 : w3.cell? ⟨w.heap.size, 1, none⟩ = some (i64 cm) := HA.out.q.cell 1
  have q3 : w3.cell? ⟨w.heap.size, 3, none⟩ = some (i64 ps) := HA.out.q.cell 3
  have h2 : w3.cell? ⟨w.heap.size + 1 + 1, 2, none⟩ = some (.bool false) := HA.out.h.cell 2
  have c0 : w3.cell? ⟨C, 0, none⟩ = some (i64 cm) := HA.out.c.cell 0
  have c6 : w3.cell? ⟨C, 6, none⟩ = some (.bool true) := HA.out.c.cell 6
  go_wp2_with fail
  refine wp_region_still_tail 25 (by kernel_rfl) (by kernel_rfl) ?_
  simp only [List.take_succ_cons, List.take_zero, List.drop_succ_cons, List.drop_zero]
  repeat (with_reducible refine wpStill_step ?_; intro K hK; go_simp; with_reducible refine hK _ ?_; clear hK K)
  with_reducible refine wpStill_nil ?_
  change wpList _ _ _ _ _ w3.drew
  have HA4 : Hid (HearAt w (w3.drew) C #[i64 pm, i64 cm, i64 pa, i64 ps, strV (tb px)] #[.string ⟨#[]⟩, .bool false, .bool false] #[.string ⟨#[]⟩, .bool false, .bool false] #[i64 cm, i64 pm, i64 cf, .slice B n cp, i64 cl, .bool cmet, .bool true]) := HA.out.drew
  clear q1 q3 h2 c0 c6
  clear HA
  generalize w3.drew = w4 at HA4 ⊢
  have HA := HA4
  clear HA4
  have c6 : w4.cell? ⟨C, 6, none⟩ = some (.bool true) := HA.out.c.cell 6
  have f6 : w4.frozen? ⟨C, 6, none⟩ = false := HA.out.c.frozen 6
  go_wp2_with fail
  have HA5 : Hid (HearAt w (w4.setCell ⟨C, 6, none⟩ (.bool true)) C #[i64 pm, i64 cm, i64 pa, i64 ps, strV (tb px)] #[.string ⟨#[]⟩, .bool false, .bool false] #[.string ⟨#[]⟩, .bool false, .bool false] #[i64 cm, i64 pm, i64 cf, .slice B n cp, i64 cl, .bool cmet, .bool true]) := HA.out.setC hlt 6 _
  clear c6 f6
  clear HA
  generalize w4.setCell ⟨C, 6, none⟩ (.bool true) = w5 at HA5 ⊢
  have HA := HA5
  clear HA5
  have q1 : w5.cell? ⟨w.heap.size, 1, none⟩ = some (i64 cm) := HA.out.q.cell 1
  have c0 : w5.cell? ⟨C, 0, none⟩ = some (i64 cm) := HA.out.c.cell 0
  go_wp2_with fail
  go_quiet (fail)
  rename_i nq
  have HA6 : Hid (HearAt w (w5.drewN nq) C #[i64 pm, i64 cm, i64 pa, i64 ps, strV (tb px)] #[.string ⟨#[]⟩, .bool false, .bool false] #[.string ⟨#[]⟩, .bool false, .bool false] #[i64 cm, i64 pm, i64 cf, .slice B n cp, i64 cl, .bool cmet, .bool true]) := HA.out.drewN nq
  clear q1 c0
  clear HA
  generalize w5.drewN nq = w6 at HA6 ⊢
  have HA := HA6
  clear HA6
  have c5 : w6.cell? ⟨C, 5, none⟩ = some (.bool cmet) := HA.out.c.cell 5
  have f5 : w6.frozen? ⟨C, 5, none⟩ = false := HA.out.c.frozen 5
  go_wp2_with fail
  have HA7 : Hid (HearAt w (w6.setCell ⟨C, 5, none⟩ (.bool true)) C #[i64 pm, i64 cm, i64 pa, i64 ps, strV (tb px)] #[.string ⟨#[]⟩, .bool false, .bool false] #[.string ⟨#[]⟩, .bool false, .bool false] #[i64 cm, i64 pm, i64 cf, .slice B n cp, i64 cl, .bool true, .bool true]) := HA.out.setC hlt 5 _
  clear c5 f5
  clear HA
  generalize w6.setCell ⟨C, 5, none⟩ (.bool true) = w7 at HA7 ⊢
  have HA := HA7
  clear HA7
  have q2 : w7.cell? ⟨w.heap.size, 2, none⟩ = some (i64 pa) := HA.out.q.cell 2
  have c2 : w7.cell? ⟨C, 2, none⟩ = some (i64 cf) := HA.out.c.cell 2
  have c3 : w7.cell? ⟨C, 3, none⟩ = some (.slice B n cp) := HA.out.c.cell 3
  go_wp2_with fail
  go_quiet (fail)
  rename_i nq
  have HA8 : Hid (HearAt w (w7.drewN nq) C #[i64 pm, i64 cm, i64 pa, i64 ps, strV (tb px)] #[.string ⟨#[]⟩, .bool false, .bool false] #[.string ⟨#[]⟩, .bool false, .bool false] #[i64 cm, i64 pm, i64 cf, .slice B n cp, i64 cl, .bool true, .bool true]) := HA.out.drewN nq
  clear q2 c2 c3
  clear HA
  generalize w7.drewN nq = w8 at HA8 ⊢
  have HA := HA8
  clear HA8
  have c3 : w8.cell? ⟨C, 3, none⟩ = some (.slice B n cp) := HA.out.c.cell 3
  go_wp2_with fail
  refine wp_region_still_tail 17 (by kernel_rfl) (by kernel_rfl) ?_
  simp only [List.take_succ_cons, List.take_zero, List.drop_succ_cons, List.drop_zero]
  repeat (with_reducible refine wpStill_step ?_; intro K hK; go_simp; with_reducible refine hK _ ?_; clear hK K)
  with_reducible refine wpStill_nil ?_
  change wpList _ _ _ _ _ w8.drew
  have HA9 : Hid (HearAt w (w8.drew) C #[i64 pm, i64 cm, i64 pa, i64 ps, strV (tb px)] #[.string ⟨#[]⟩, .bool false, .bool false] #[.string ⟨#[]⟩, .bool false, .bool false] #[i64 cm, i64 pm, i64 cf, .slice B n cp, i64 cl, .bool true, .bool true]) := HA.out.drew
  clear c3
  clear HA
  generalize w8.drew = w9 at HA9 ⊢
  have HA := HA9
  clear HA9
  obtain ⟨B2, hB2⟩ : ∃ B2, (if n = kn then B else Option.map (fun x => x.add kn) B) = B2 := ⟨_, rfl⟩
  rw [hB2]
  have HB2 := Lib.hid hB2
  clear hB2
  have c2 : w9.cell? ⟨C, 2, none⟩ = some (i64 cf) := HA.out.c.cell 2
  have c3 : w9.cell? ⟨C, 3, none⟩ = some (.slice B n cp) := HA.out.c.cell 3
  have f2 : w9.frozen? ⟨C, 2, none⟩ = false := HA.out.c.frozen 2
  have f3 : w9.frozen? ⟨C, 3, none⟩ = false := HA.out.c.frozen 3
  go_wp2_with fail
  have HA10 : Hid (HearAt w (w9.setCell ⟨C, 3, none⟩ (.slice B2 (n - kn) (n - kn))) C #[i64 pm, i64 cm, i64 pa, i64 ps, strV (tb px)] #[.string ⟨#[]⟩, .bool false, .bool false] #[.string ⟨#[]⟩, .bool false, .bool false] #[i64 cm, i64 pm, i64 cf, .slice B2 (n - kn) (n - kn), i64 cl, .bool true, .bool true]) := HA.out.setC hlt 3 _
  clear c2 c3 f2 f3
  clear HA
  generalize w9.setCell ⟨C, 3, none⟩ (.slice B2 (n - kn) (n - kn)) = w10 at HA10 ⊢
  have HA := HA10
  clear HA10
  have HA11 : Hid (HearAt w (w10.setCell ⟨C, 2, none⟩ (i64 (cf + (kn : Int)))) C #[i64 pm, i64 cm, i64 pa, i64 ps, strV (tb px)] #[.string ⟨#[]⟩, .bool false, .bool false] #[.string ⟨#[]⟩, .bool false, .bool false] #[i64 cm, i64 pm, i64 (cf + (kn : Int)), .slice B2 (n - kn) (n - kn), i64 cl, .bool true, .bool true]) := HA.out.setC hlt 2 _
  clear HA
  generalize w10.setCell ⟨C, 2, none⟩ (i64 (cf + (kn : Int))) = w11 at HA11 ⊢
  have HA := HA11
  clear HA11
  have q3 : w11.cell? ⟨w.heap.size, 3, none⟩ = some (i64 ps) := HA.out.q.cell 3
  have c4 : w11.cell? ⟨C, 4, none⟩ = some (i64 cl) := HA.out.c.cell 4
  go_wp2_with fail
  go_quiet (fail)
  rename_i nq
  have HA12 : Hid (HearAt w (w11.drewN nq) C #[i64 pm, i64 cm, i64 pa, i64 ps, strV (tb px)] #[.string ⟨#[]⟩, .bool false, .bool false] #[.string ⟨#[]⟩, .bool false, .bool false] #[i64 cm, i64 pm, i64 (cf + (kn : Int)), .slice B2 (n - kn) (n - kn), i64 cl, .bool true, .bool true]) := HA.out.drewN nq
  clear q3 c4
  clear HA
  generalize w11.drewN nq = w12 at HA12 ⊢
  have HA := HA12
  clear HA12
  have h0 : w12.cell? ⟨w.heap.size + 1 + 1, 0, none⟩ = some (.string ⟨#[]⟩) := HA.out.h.cell 0
  have h1 : w12.cell? ⟨w.heap.size + 1 + 1, 1, none⟩ = some (.bool false) := HA.out.h.cell 1
  have h2 : w12.cell? ⟨w.heap.size + 1 + 1, 2, none⟩ = some (.bool false) := HA.out.h.cell 2
  have r0 : w12.cell? ⟨w.heap.size + 1, 0, none⟩ = some (.string ⟨#[]⟩) := HA.out.r.cell 0
  have r1 : w12.cell? ⟨w.heap.size + 1, 1, none⟩ = some (.bool false) := HA.out.r.cell 1
  have r2 : w12.cell? ⟨w.heap.size + 1, 2, none⟩ = some (.bool false) := HA.out.r.cell 2
  have g0 : w12.frozen? ⟨w.heap.size + 1, 0, none⟩ = false := HA.out.r.frozen 0
  have g1 : w12.frozen? ⟨w.heap.size + 1, 1, none⟩ = false := HA.out.r.frozen 1
  have g2 : w12.frozen? ⟨w.heap.size + 1, 2, none⟩ = false := HA.out.r.frozen 2
  go_wp2_with fail
  change bodyPost _ _ _ _ _ (setPt w12 (w.heap.size + 1) (.string ⟨#[]⟩) (.bool false) (.bool false))
  clear h0 h1 h2 r0 r1 r2 g0 g1 g2
  have hcl : HearR w C base (.slice B n cp) ⟨cm, pm, cf + (kn : Int), cw.drop kn, cl, true, true⟩ none false (.returned (.tuple #[.agg (heardC (none : Option Msg) false), .int .i64 0])) (setPt w12 (w.heap.size + 1) (strV (tb (none : Option Msg))) (.bool (Option.isSome (none : Option Msg))) (.bool false)) := hear_close (v' := .slice B2 (n - kn) (n - kn)) HA.out hlt (by rw [← HB2.out]; exact wait_cut HWn.out HN.out HE.out.1) (fun hm => HNE.out (row_cut (by rw [HB2.out]; exact hm))) (fun q hq => row_cut (by rw [HB2.out]; exact hq))
  refine bodyPost_ret (results_cell_tmp_row rfl _ _ (w.heap.size + 1) 74 _ (0, 0) _ rfl (setPt_blk _ _ _ HA.out.r) Try.underlying74 rfl (by kernel_rfl)) rfl ?_
  exact hcl

set_option maxHeartbeats 1000000 in
set_option maxRecDepth 100000 in
theorem hearL_tat (C base : Nat) (v : Value) (cm cf cl : Int) (cmet _cowes : Bool) (cw : List Msg) (pm pa ps : Int) (px : Option Msg) {kn : Nat} (w : World)
    (hC : ChanAt w C base v ⟨cm, pm, cf, cw, cl, cmet, true⟩) (hp : PkCan pm cm pa ps (tb px)) (hs : 0 < ps) (hf0 : 0 ≤ cf) (hf1 : cf ≤ 1099511627776) (hl0 : 0 ≤ cl) (hl1 : cl ≤ 1099511627776) (hk : min (pa - cf + 1) (cw.length : Int) = (kn : Int)) (hk0 : 0 < kn) (hlw : cw.length ≤ 1099511627776) (ht : ps = cl + 1) (hx : px.isSome = true) :
    Calls Try.prog 24 #[.pointer (some ⟨C, 0, none⟩), pkV pm cm pa ps (tb px)] w (HearR w C base v ⟨cm, pm, cf + (kn : Int), cw.drop kn, cl + 1, true, true⟩ px false) := by
  have K1 := Lib.hid (fun w => scheck_any pm cm pa ps (tb px) w hp)
  obtain ⟨B, cp, rfl, hnc, hrd⟩ := hC.wait.form
  have hlt := hC.blk.lt
  have HRd := Lib.hid hrd
  obtain ⟨n, hn⟩ : ∃ n, cw.length = n := ⟨_, rfl⟩
  have HN := Lib.hid hn
  change cw.length ≤ cp at hnc
  have HBn : Hid (Blk w C 83 (chanC ⟨cm, pm, cf, cw, cl, cmet, true⟩ (.slice B n cp))) := by rw [← hn]; exact hC.blk
  have HWn : Hid (WaitAt w base (.slice B n cp) cw.length (txtL cw)) := by have := hC.wait; rw [← hn]; exact this
  have HNE : Hid (C ∉ rowOf (.slice B n cp)) := by rw [← hn]; exact hC.ne
  rw [hn] at hnc
  rw [hn] at hlw
  have e3 : decide (0 < ps) = true := by simpa using hs
  have k1 : IntKind.i64.wrap (pa - cf) = pa - cf := IntWalk.i64_in _ (by have := hp.c0; have := hp.c1; omega)
  have k2 : IntKind.i64.wrap (pa - cf + 1) = pa - cf + 1 := IntWalk.i64_in _ (by have := hp.c0; have := hp.c1; omega)
  have hk2 : min (pa - cf + 1) (n : Int) = (kn : Int) := by rw [← hk, hn]
  have e7 : kn ≤ n := by omega
  have e8 : 0 < kn := by omega
  have k3 : IntKind.i64.wrap (cf + (kn : Int)) = cf + (kn : Int) := IntWalk.i64_in _ (by omega)
  have HE := Lib.hid (And.intro e7 e8)
  clear hk hk0
  have k4 : IntKind.i64.wrap (cl + 1) = cl + 1 := IntWalk.i64_in _ (by omega)
  have e9 : (ps == cl + 1) = true := by simpa using ht
  have HX := Lib.hid hx
  clear ht hx
  clear hf0 hf1 hl0 hl1
  clear hs
  clear hp hC hrd hn
  change Calls _ _ _ _ (HearR w C base (.slice B cw.length cp) _ _ _)
  rw [HN.out]
  go_enter Try.func24, Try.ntmps24
  go_wp2_with fail
  (with_reducible refine (K1.out _).mono ?_)
  rintro e w1 ⟨rfl, hg1⟩
  have HA := Lib.hid (hear_start HBn.out hg1)
  clear hg1
  have q0 : w1.cell? ⟨w.heap.size, 0, none⟩ = some (i64 pm) := HA.out.q.cell 0
  have c1 : w1.cell? ⟨C, 1, none⟩ = some (i64 pm) := HA.out.c.cell 1
  go_wp2_with fail
  go_quiet (fail)
  rename_i nq
  have HA2 : Hid (HearAt w (w1.drewN nq) C #[i64 pm, i64 cm, i64 pa, i64 ps, strV (tb px)] #[.string ⟨#[]⟩, .bool false, .bool false] #[.string ⟨#[]⟩, .bool false, .bool false] #[i64 cm, i64 pm, i64 cf, .slice B n cp, i64 cl, .bool cmet, .bool true]) := HA.out.drewN nq
  clear q0 c1
  clear HA
  generalize w1.drewN nq = w2 at HA2 ⊢
  have HA := HA2
  clear HA2
  have q0 : w2.cell? ⟨w.heap.size, 0, none⟩ = some (i64 pm) := HA.out.q.cell 0
  have c1 : w2.cell? ⟨C, 1, none⟩ = some (i64 pm) := HA.out.c.cell 1
  go_wp2_with fail
  go_quiet (fail)
  rename_i nq
  have HA3 : Hid (HearAt w (w2.drewN nq) C #[i64 pm, i64 cm, i64 pa, i64 ps, strV (tb px)] #[.string ⟨#[]⟩, .bool false, .bool false] #[.string ⟨#[]⟩, .bool false, .bool false] #[i64 cm, i64 pm, i64 cf, .slice B n cp, i64 cl, .bool cmet, .bool true]) := HA.out.drewN nq
  clear q0 c1
  clear HA
  generalize w2.drewN nq = w3 at HA3 ⊢
  have HA := HA3
  clear HA3
  have q1 : w3.cell? ⟨w.heap.size, 1, none⟩ = some (i64 cm) := HA.out.q.cell 1
  have q3 : w3.cell? ⟨w.heap.size, 3, none⟩ = some (i64 ps) := HA.out.q.cell 3
  have h2 : w3.cell? ⟨w.heap.size + 1 + 1, 2, none⟩ = some (.bool false) := HA.out.h.cell 2
  have c0 : w3.cell? ⟨C, 0, none⟩ = some (i64 cm) := HA.out.c.cell 0
  have c6 : w3.cell? ⟨C, 6, none⟩ = some (.bool true) := HA.out.c.cell 6
  go_wp2_with fail
  refine wp_region_still_tail 25 (by kernel_rfl) (by kernel_rfl) ?_
  simp only [List.take_succ_cons, List.take_zero, List.drop_succ_cons, List.drop_zero]
  repeat (with_reducible refine wpStill_step ?_; intro K hK; go_simp; with_reducible refine hK _ ?_; clear hK K)
  with_reducible refine wpStill_nil ?_
  change wpList _ _ _ _ _ w3.drew
  have HA4 : Hid (HearAt w (w3.drew) C #[i64 pm, i64 cm, i64 pa, i64 ps, strV (tb px)] #[.string ⟨#[]⟩, .bool false, .bool false] #[.string ⟨#[]⟩, .bool false, .bool false] #[i64 cm, i64 pm, i64 cf, .slice B n cp, i64 cl, .bool cmet, .bool true]) := HA.out.drew
  clear q1 q3 h2 c0 c6
  clear HA
  generalize w3.drew = w4 at HA4 ⊢
  have HA := HA4
  clear HA4
  have c6 : w4.cell? ⟨C, 6, none⟩ = some (.bool true) := HA.out.c.cell 6
  have f6 : w4.frozen? ⟨C, 6, none⟩ = false := HA.out.c.frozen 6
  go_wp2_with fail
  have HA5 : Hid (HearAt w (w4.setCell ⟨C, 6, none⟩ (.bool true)) C #[i64 pm, i64 cm, i64 pa, i64 ps, strV (tb px)] #[.string ⟨#[]⟩, .bool false, .bool false] #[.string ⟨#[]⟩, .bool false, .bool false] #[i64 cm, i64 pm, i64 cf, .slice B n cp, i64 cl, .bool cmet, .bool true]) := HA.out.setC hlt 6 _
  clear c6 f6
  clear HA
  generalize w4.setCell ⟨C, 6, none⟩ (.bool true) = w5 at HA5 ⊢
  have HA := HA5
  clear HA5
  have q1 : w5.cell? ⟨w.heap.size, 1, none⟩ = some (i64 cm) := HA.out.q.cell 1
  have c0 : w5.cell? ⟨C, 0, none⟩ = some (i64 cm) := HA.out.c.cell 0
  go_wp2_with fail
  go_quiet (fail)
  rename_i nq
  have HA6 : Hid (HearAt w (w5.drewN nq) C #[i64 pm, i64 cm, i64 pa, i64 ps, strV (tb px)] #[.string ⟨#[]⟩, .bool false, .bool false] #[.string ⟨#[]⟩, .bool false, .bool false] #[i64 cm, i64 pm, i64 cf, .slice B n cp, i64 cl, .bool cmet, .bool true]) := HA.out.drewN nq
  clear q1 c0
  clear HA
  generalize w5.drewN nq = w6 at HA6 ⊢
  have HA := HA6
  clear HA6
  have c5 : w6.cell? ⟨C, 5, none⟩ = some (.bool cmet) := HA.out.c.cell 5
  have f5 : w6.frozen? ⟨C, 5, none⟩ = false := HA.out.c.frozen 5
  go_wp2_with fail
  have HA7 : Hid (HearAt w (w6.setCell ⟨C, 5, none⟩ (.bool true)) C #[i64 pm, i64 cm, i64 pa, i64 ps, strV (tb px)] #[.string ⟨#[]⟩, .bool false, .bool false] #[.string ⟨#[]⟩, .bool false, .bool false] #[i64 cm, i64 pm, i64 cf, .slice B n cp, i64 cl, .bool true, .bool true]) := HA.out.setC hlt 5 _
  clear c5 f5
  clear HA
  generalize w6.setCell ⟨C, 5, none⟩ (.bool true) = w7 at HA7 ⊢
  have HA := HA7
  clear HA7
  have q2 : w7.cell? ⟨w.heap.size, 2, none⟩ = some (i64 pa) := HA.out.q.cell 2
  have c2 : w7.cell? ⟨C, 2, none⟩ = some (i64 cf) := HA.out.c.cell 2
  have c3 : w7.cell? ⟨C, 3, none⟩ = some (.slice B n cp) := HA.out.c.cell 3
  go_wp2_with fail
  go_quiet (fail)
  rename_i nq
  have HA8 : Hid (HearAt w (w7.drewN nq) C #[i64 pm, i64 cm, i64 pa, i64 ps, strV (tb px)] #[.string ⟨#[]⟩, .bool false, .bool false] #[.string ⟨#[]⟩, .bool false, .bool false] #[i64 cm, i64 pm, i64 cf, .slice B n cp, i64 cl, .bool true, .bool true]) := HA.out.drewN nq
  clear q2 c2 c3
  clear HA
  generalize w7.drewN nq = w8 at HA8 ⊢
  have HA := HA8
  clear HA8
  have c3 : w8.cell? ⟨C, 3, none⟩ = some (.slice B n cp) := HA.out.c.cell 3
  go_wp2_with fail
  refine wp_region_still_tail 17 (by kernel_rfl) (by kernel_rfl) ?_
  simp only [List.take_succ_cons, List.take_zero, List.drop_succ_cons, List.drop_zero]
  repeat (with_reducible refine wpStill_step ?_; intro K hK; go_simp; with_reducible refine hK _ ?_; clear hK K)
  with_reducible refine wpStill_nil ?_
  change wpList _ _ _ _ _ w8.drew
  have HA9 : Hid (HearAt w (w8.drew) C #[i64 pm, i64 cm, i64 pa, i64 ps, strV (tb px)] #[.string ⟨#[]⟩, .bool false, .bool false] #[.string ⟨#[]⟩, .bool false, .bool false] #[i64 cm, i64 pm, i64 cf, .slice B n cp, i64 cl, .bool true, .bool true]) := HA.out.drew
  clear c3
  clear HA
  generalize w8.drew = w9 at HA9 ⊢
  have HA := HA9
  clear HA9
  obtain ⟨B2, hB2⟩ : ∃ B2, (if n = kn then B else Option.map (fun x => x.add kn) B) = B2 := ⟨_, rfl⟩
  rw [hB2]
  have HB2 := Lib.hid hB2
  clear hB2
  have c2 : w9.cell? ⟨C, 2, none⟩ = some (i64 cf) := HA.out.c.cell 2
  have c3 : w9.cell? ⟨C, 3, none⟩ = some (.slice B n cp) := HA.out.c.cell 3
  have f2 : w9.frozen? ⟨C, 2, none⟩ = false := HA.out.c.frozen 2
  have f3 : w9.frozen? ⟨C, 3, none⟩ = false := HA.out.c.frozen 3
  go_wp2_with fail
  have HA10 : Hid (HearAt w (w9.setCell ⟨C, 3, none⟩ (.slice B2 (n - kn) (n - kn))) C #[i64 pm, i64 cm, i64 pa, i64 ps, strV (tb px)] #[.string ⟨#[]⟩, .bool false, .bool false] #[.string ⟨#[]⟩, .bool false, .bool false] #[i64 cm, i64 pm, i64 cf, .slice B2 (n - kn) (n - kn), i64 cl, .bool true, .bool true]) := HA.out.setC hlt 3 _
  clear c2 c3 f2 f3
  clear HA
  generalize w9.setCell ⟨C, 3, none⟩ (.slice B2 (n - kn) (n - kn)) = w10 at HA10 ⊢
  have HA := HA10
  clear HA10
  have HA11 : Hid (HearAt w (w10.setCell ⟨C, 2, none⟩ (i64 (cf + (kn : Int)))) C #[i64 pm, i64 cm, i64 pa, i64 ps, strV (tb px)] #[.string ⟨#[]⟩, .bool false, .bool false] #[.string ⟨#[]⟩, .bool false, .bool false] #[i64 cm, i64 pm, i64 (cf + (kn : Int)), .slice B2 (n - kn) (n - kn), i64 cl, .bool true, .bool true]) := HA.out.setC hlt 2 _
  clear HA
  generalize w10.setCell ⟨C, 2, none⟩ (i64 (cf + (kn : Int))) = w11 at HA11 ⊢
  have HA := HA11
  clear HA11
  have q3 : w11.cell? ⟨w.heap.size, 3, none⟩ = some (i64 ps) := HA.out.q.cell 3
  have c4 : w11.cell? ⟨C, 4, none⟩ = some (i64 cl) := HA.out.c.cell 4
  go_wp2_with fail
  go_quiet (fail)
  rename_i nq
  have HA12 : Hid (HearAt w (w11.drewN nq) C #[i64 pm, i64 cm, i64 pa, i64 ps, strV (tb px)] #[.string ⟨#[]⟩, .bool false, .bool false] #[.string ⟨#[]⟩, .bool false, .bool false] #[i64 cm, i64 pm, i64 (cf + (kn : Int)), .slice B2 (n - kn) (n - kn), i64 cl, .bool true, .bool true]) := HA.out.drewN nq
  clear q3 c4
  clear HA
  generalize w11.drewN nq = w12 at HA12 ⊢
  have HA := HA12
  clear HA12
  have h0 : w12.cell? ⟨w.heap.size + 1 + 1, 0, none⟩ = some (.string ⟨#[]⟩) := HA.out.h.cell 0
  have h1 : w12.cell? ⟨w.heap.size + 1 + 1, 1, none⟩ = some (.bool false) := HA.out.h.cell 1
  have h2 : w12.cell? ⟨w.heap.size + 1 + 1, 2, none⟩ = some (.bool false) := HA.out.h.cell 2
  have r0 : w12.cell? ⟨w.heap.size + 1, 0, none⟩ = some (.string ⟨#[]⟩) := HA.out.r.cell 0
  have r1 : w12.cell? ⟨w.heap.size + 1, 1, none⟩ = some (.bool false) := HA.out.r.cell 1
  have r2 : w12.cell? ⟨w.heap.size + 1, 2, none⟩ = some (.bool false) := HA.out.r.cell 2
  have c4 : w12.cell? ⟨C, 4, none⟩ = some (i64 cl) := HA.out.c.cell 4
  have q4 : w12.cell? ⟨w.heap.size, 4, none⟩ = some (strV (tb px)) := HA.out.q.cell 4
  have g0 : w12.frozen? ⟨w.heap.size + 1, 0, none⟩ = false := HA.out.r.frozen 0
  have g1 : w12.frozen? ⟨w.heap.size + 1, 1, none⟩ = false := HA.out.r.frozen 1
  have g2 : w12.frozen? ⟨w.heap.size + 1, 2, none⟩ = false := HA.out.r.frozen 2
  have f4 : w12.frozen? ⟨C, 4, none⟩ = false := HA.out.c.frozen 4
  have m0 : w12.frozen? ⟨w.heap.size + 1 + 1, 0, none⟩ = false := HA.out.h.frozen 0
  have m1 : w12.frozen? ⟨w.heap.size + 1 + 1, 1, none⟩ = false := HA.out.h.frozen 1
  go_wp2_with fail
  change bodyPost _ _ _ _ _ (setPt (((w12.setCell ⟨C, 4, none⟩ (i64 (cl + 1))).setCell ⟨w.heap.size + 1 + 1, 0, none⟩ (strV (tb px))).setCell ⟨w.heap.size + 1 + 1, 1, none⟩ (.bool true)) (w.heap.size + 1) (strV (tb px)) (.bool true) (.bool false))
  have HA13 : Hid (HearAt w (w12.setCell ⟨C, 4, none⟩ (i64 (cl + 1))) C #[i64 pm, i64 cm, i64 pa, i64 ps, strV (tb px)] #[.string ⟨#[]⟩, .bool false, .bool false] #[.string ⟨#[]⟩, .bool false, .bool false] #[i64 cm, i64 pm, i64 (cf + (kn : Int)), .slice B2 (n - kn) (n - kn), i64 (cl + 1), .bool true, .bool true]) := HA.out.setC hlt 4 _
  clear h0 h1 h2 r0 r1 r2 c4 q4 g0 g1 g2 f4 m0 m1
  clear HA
  generalize w12.setCell ⟨C, 4, none⟩ (i64 (cl + 1)) = w13 at HA13 ⊢
  have HA := HA13
  clear HA13
  have HA14 : Hid (HearAt w (w13.setCell ⟨w.heap.size + 1 + 1, 0, none⟩ (strV (tb px))) C #[i64 pm, i64 cm, i64 pa, i64 ps, strV (tb px)] #[.string ⟨#[]⟩, .bool false, .bool false] #[strV (tb px), .bool false, .bool false] #[i64 cm, i64 pm, i64 (cf + (kn : Int)), .slice B2 (n - kn) (n - kn), i64 (cl + 1), .bool true, .bool true]) := HA.out.setH hlt 0 _
  clear HA
  generalize w13.setCell ⟨w.heap.size + 1 + 1, 0, none⟩ (strV (tb px)) = w14 at HA14 ⊢
  have HA := HA14
  clear HA14
  have HA15 : Hid (HearAt w (w14.setCell ⟨w.heap.size + 1 + 1, 1, none⟩ (.bool true)) C #[i64 pm, i64 cm, i64 pa, i64 ps, strV (tb px)] #[.string ⟨#[]⟩, .bool false, .bool false] #[strV (tb px), .bool true, .bool false] #[i64 cm, i64 pm, i64 (cf + (kn : Int)), .slice B2 (n - kn) (n - kn), i64 (cl + 1), .bool true, .bool true]) := HA.out.setH hlt 1 _
  clear HA
  generalize w14.setCell ⟨w.heap.size + 1 + 1, 1, none⟩ (.bool true) = w15 at HA15 ⊢
  have HA := HA15
  clear HA15
  have hcl : HearR w C base (.slice B n cp) ⟨cm, pm, cf + (kn : Int), cw.drop kn, cl + 1, true, true⟩ px false (.returned (.tuple #[.agg (heardC px false), .int .i64 0])) (setPt w15 (w.heap.size + 1) (strV (tb px)) (.bool (Option.isSome px)) (.bool false)) := hear_close (v' := .slice B2 (n - kn) (n - kn)) HA.out hlt (by rw [← HB2.out]; exact wait_cut HWn.out HN.out HE.out.1) (fun hm => HNE.out (row_cut (by rw [HB2.out]; exact hm))) (fun q hq => row_cut (by rw [HB2.out]; exact hq))
  have hx := HX.out
  rw [hx] at hcl
  refine bodyPost_ret (results_cell_tmp_row rfl _ _ (w.heap.size + 1) 74 _ (0, 0) _ rfl (setPt_blk _ _ _ HA.out.r) Try.underlying74 rfl (by kernel_rfl)) rfl ?_
  simp only [heardC, hx] at hcl
  exact hcl

set_option maxHeartbeats 1000000 in
set_option maxRecDepth 100000 in
theorem hearL_fn (C base : Nat) (v : Value) (cm cf cl : Int) (cmet _cowes : Bool) (cw : List Msg) (pm pa ps : Int) (px : Option Msg) {k : Int} (w : World)
    (hC : ChanAt w C base v ⟨cm, pm, cf, cw, cl, cmet, false⟩) (hp : PkCan pm cm pa ps (tb px)) (hs : ¬ 0 < ps) (hf0 : 0 ≤ cf) (hf1 : cf ≤ 1099511627776) (_hl0 : 0 ≤ cl) (_hl1 : cl ≤ 1099511627776) (hk : min (pa - cf + 1) (cw.length : Int) = k) (hk0 : ¬ 0 < k) (_hlw : cw.length ≤ 1099511627776) :
    Calls Try.prog 24 #[.pointer (some ⟨C, 0, none⟩), pkV pm cm pa ps (tb px)] w (HearR w C base v ⟨cm, pm, cf, cw, cl, true, false⟩ none false) := by
  have K1 := Lib.hid (fun w => scheck_any pm cm pa ps (tb px) w hp)
  obtain ⟨B, cp, rfl, hnc, hrd⟩ := hC.wait.form
  have hlt := hC.blk.lt
  have HRd := Lib.hid hrd
  obtain ⟨n, hn⟩ : ∃ n, cw.length = n := ⟨_, rfl⟩
  have HN := Lib.hid hn
  change cw.length ≤ cp at hnc
  have HBn : Hid (Blk w C 83 (chanC ⟨cm, pm, cf, cw, cl, cmet, false⟩ (.slice B n cp))) := by rw [← hn]; exact hC.blk
  have HWn : Hid (WaitAt w base (.slice B n cp) cw.length (txtL cw)) := by have := hC.wait; rw [← hn]; exact this
  have HNE : Hid (C ∉ rowOf (.slice B n cp)) := by rw [← hn]; exact hC.ne
  rw [hn] at hnc
  rw [hn] at _hlw
  have e3 : decide (0 < ps) = false := by simpa using hs
  have k1 : IntKind.i64.wrap (pa - cf) = pa - cf := IntWalk.i64_in _ (by have := hp.c0; have := hp.c1; omega)
  have k2 : IntKind.i64.wrap (pa - cf + 1) = pa - cf + 1 := IntWalk.i64_in _ (by have := hp.c0; have := hp.c1; omega)
  have hk2 : min (pa - cf + 1) (n : Int) = k := by rw [← hk, hn]
  have e6 : decide (0 < k) = false := by simp; omega
  clear hk hk0
  clear hf0 hf1 _hl0 _hl1
  clear hs
  clear hp hC hrd hn
  change Calls _ _ _ _ (HearR w C base (.slice B cw.length cp) _ _ _)
  rw [HN.out]
  go_enter Try.func24, Try.ntmps24
  go_wp2_with fail
  (with_reducible refine (K1.out _).mono ?_)
  rintro e w1 ⟨rfl, hg1⟩
  have HA := Lib.hid (hear_start HBn.out hg1)
  clear hg1
  have q0 : w1.cell? ⟨w.heap.size, 0, none⟩ = some (i64 pm) := HA.out.q.cell 0
  have c1 : w1.cell? ⟨C, 1, none⟩ = some (i64 pm) := HA.out.c.cell 1
  go_wp2_with fail
  go_quiet (fail)
  rename_i nq
  have HA2 : Hid (HearAt w (w1.drewN nq) C #[i64 pm, i64 cm, i64 pa, i64 ps, strV (tb px)] #[.string ⟨#[]⟩, .bool false, .bool false] #[.string ⟨#[]⟩, .bool false, .bool false] #[i64 cm, i64 pm, i64 cf, .slice B n cp, i64 cl, .bool cmet, .bool false]) := HA.out.drewN nq
  clear q0 c1
  clear HA
  generalize w1.drewN nq = w2 at HA2 ⊢
  have HA := HA2
  clear HA2
  have q0 : w2.cell? ⟨w.heap.size, 0, none⟩ = some (i64 pm) := HA.out.q.cell 0
  have c1 : w2.cell? ⟨C, 1, none⟩ = some (i64 pm) := HA.out.c.cell 1
  go_wp2_with fail
  go_quiet (fail)
  rename_i nq
  have HA3 : Hid (HearAt w (w2.drewN nq) C #[i64 pm, i64 cm, i64 pa, i64 ps, strV (tb px)] #[.string ⟨#[]⟩, .bool false, .bool false] #[.string ⟨#[]⟩, .bool false, .bool false] #[i64 cm, i64 pm, i64 cf, .slice B n cp, i64 cl, .bool cmet, .bool false]) := HA.out.drewN nq
  clear q0 c1
  clear HA
  generalize w2.drewN nq = w3 at HA3 ⊢
  have HA := HA3
  clear HA3
  have q1 : w3.cell? ⟨w.heap.size, 1, none⟩ = some (i64 cm) := HA.out.q.cell 1
  have q3 : w3.cell? ⟨w.heap.size, 3, none⟩ = some (i64 ps) := HA.out.q.cell 3
  have h2 : w3.cell? ⟨w.heap.size + 1 + 1, 2, none⟩ = some (.bool false) := HA.out.h.cell 2
  have c0 : w3.cell? ⟨C, 0, none⟩ = some (i64 cm) := HA.out.c.cell 0
  have c6 : w3.cell? ⟨C, 6, none⟩ = some (.bool false) := HA.out.c.cell 6
  go_wp2_with fail
  refine wp_region_still_tail 25 (by kernel_rfl) (by kernel_rfl) ?_
  simp only [List.take_succ_cons, List.take_zero, List.drop_succ_cons, List.drop_zero]
  repeat (with_reducible refine wpStill_step ?_; intro K hK; go_simp; with_reducible refine hK _ ?_; clear hK K)
  with_reducible refine wpStill_nil ?_
  change wpList _ _ _ _ _ w3.drew
  have HA4 : Hid (HearAt w (w3.drew) C #[i64 pm, i64 cm, i64 pa, i64 ps, strV (tb px)] #[.string ⟨#[]⟩, .bool false, .bool false] #[.string ⟨#[]⟩, .bool false, .bool false] #[i64 cm, i64 pm, i64 cf, .slice B n cp, i64 cl, .bool cmet, .bool false]) := HA.out.drew
  clear q1 q3 h2 c0 c6
  clear HA
  generalize w3.drew = w4 at HA4 ⊢
  have HA := HA4
  clear HA4
  have c6 : w4.cell? ⟨C, 6, none⟩ = some (.bool false) := HA.out.c.cell 6
  have f6 : w4.frozen? ⟨C, 6, none⟩ = false := HA.out.c.frozen 6
  go_wp2_with fail
  have HA5 : Hid (HearAt w (w4.setCell ⟨C, 6, none⟩ (.bool false)) C #[i64 pm, i64 cm, i64 pa, i64 ps, strV (tb px)] #[.string ⟨#[]⟩, .bool false, .bool false] #[.string ⟨#[]⟩, .bool false, .bool false] #[i64 cm, i64 pm, i64 cf, .slice B n cp, i64 cl, .bool cmet, .bool false]) := HA.out.setC hlt 6 _
  clear c6 f6
  clear HA
  generalize w4.setCell ⟨C, 6, none⟩ (.bool false) = w5 at HA5 ⊢
  have HA := HA5
  clear HA5
  have q1 : w5.cell? ⟨w.heap.size, 1, none⟩ = some (i64 cm) := HA.out.q.cell 1
  have c0 : w5.cell? ⟨C, 0, none⟩ = some (i64 cm) := HA.out.c.cell 0
  go_wp2_with fail
  go_quiet (fail)
  rename_i nq
  have HA6 : Hid (HearAt w (w5.drewN nq) C #[i64 pm, i64 cm, i64 pa, i64 ps, strV (tb px)] #[.string ⟨#[]⟩, .bool false, .bool false] #[.string ⟨#[]⟩, .bool false, .bool false] #[i64 cm, i64 pm, i64 cf, .slice B n cp, i64 cl, .bool cmet, .bool false]) := HA.out.drewN nq
  clear q1 c0
  clear HA
  generalize w5.drewN nq = w6 at HA6 ⊢
  have HA := HA6
  clear HA6
  have c5 : w6.cell? ⟨C, 5, none⟩ = some (.bool cmet) := HA.out.c.cell 5
  have f5 : w6.frozen? ⟨C, 5, none⟩ = false := HA.out.c.frozen 5
  go_wp2_with fail
  have HA7 : Hid (HearAt w (w6.setCell ⟨C, 5, none⟩ (.bool true)) C #[i64 pm, i64 cm, i64 pa, i64 ps, strV (tb px)] #[.string ⟨#[]⟩, .bool false, .bool false] #[.string ⟨#[]⟩, .bool false, .bool false] #[i64 cm, i64 pm, i64 cf, .slice B n cp, i64 cl, .bool true, .bool false]) := HA.out.setC hlt 5 _
  clear c5 f5
  clear HA
  generalize w6.setCell ⟨C, 5, none⟩ (.bool true) = w7 at HA7 ⊢
  have HA := HA7
  clear HA7
  have q2 : w7.cell? ⟨w.heap.size, 2, none⟩ = some (i64 pa) := HA.out.q.cell 2
  have c2 : w7.cell? ⟨C, 2, none⟩ = some (i64 cf) := HA.out.c.cell 2
  have c3 : w7.cell? ⟨C, 3, none⟩ = some (.slice B n cp) := HA.out.c.cell 3
  go_wp2_with fail
  go_quiet (fail)
  rename_i nq
  have HA8 : Hid (HearAt w (w7.drewN nq) C #[i64 pm, i64 cm, i64 pa, i64 ps, strV (tb px)] #[.string ⟨#[]⟩, .bool false, .bool false] #[.string ⟨#[]⟩, .bool false, .bool false] #[i64 cm, i64 pm, i64 cf, .slice B n cp, i64 cl, .bool true, .bool false]) := HA.out.drewN nq
  clear q2 c2 c3
  clear HA
  generalize w7.drewN nq = w8 at HA8 ⊢
  have HA := HA8
  clear HA8
  have q3 : w8.cell? ⟨w.heap.size, 3, none⟩ = some (i64 ps) := HA.out.q.cell 3
  go_wp2_with fail
  go_quiet (fail)
  rename_i nq
  have HA9 : Hid (HearAt w (w8.drewN nq) C #[i64 pm, i64 cm, i64 pa, i64 ps, strV (tb px)] #[.string ⟨#[]⟩, .bool false, .bool false] #[.string ⟨#[]⟩, .bool false, .bool false] #[i64 cm, i64 pm, i64 cf, .slice B n cp, i64 cl, .bool true, .bool false]) := HA.out.drewN nq
  clear q3
  clear HA
  generalize w8.drewN nq = w9 at HA9 ⊢
  have HA := HA9
  clear HA9
  have h0 : w9.cell? ⟨w.heap.size + 1 + 1, 0, none⟩ = some (.string ⟨#[]⟩) := HA.out.h.cell 0
  have h1 : w9.cell? ⟨w.heap.size + 1 + 1, 1, none⟩ = some (.bool false) := HA.out.h.cell 1
  have h2 : w9.cell? ⟨w.heap.size + 1 + 1, 2, none⟩ = some (.bool false) := HA.out.h.cell 2
  have r0 : w9.cell? ⟨w.heap.size + 1, 0, none⟩ = some (.string ⟨#[]⟩) := HA.out.r.cell 0
  have r1 : w9.cell? ⟨w.heap.size + 1, 1, none⟩ = some (.bool false) := HA.out.r.cell 1
  have r2 : w9.cell? ⟨w.heap.size + 1, 2, none⟩ = some (.bool false) := HA.out.r.cell 2
  have g0 : w9.frozen? ⟨w.heap.size + 1, 0, none⟩ = false := HA.out.r.frozen 0
  have g1 : w9.frozen? ⟨w.heap.size + 1, 1, none⟩ = false := HA.out.r.frozen 1
  have g2 : w9.frozen? ⟨w.heap.size + 1, 2, none⟩ = false := HA.out.r.frozen 2
  go_wp2_with fail
  change bodyPost _ _ _ _ _ (setPt w9 (w.heap.size + 1) (.string ⟨#[]⟩) (.bool false) (.bool false))
  clear h0 h1 h2 r0 r1 r2 g0 g1 g2
  have hcl : HearR w C base (.slice B n cp) ⟨cm, pm, cf, cw, cl, true, false⟩ none false (.returned (.tuple #[.agg (heardC (none : Option Msg) false), .int .i64 0])) (setPt w9 (w.heap.size + 1) (strV (tb (none : Option Msg))) (.bool (Option.isSome (none : Option Msg))) (.bool false)) := hear_close (v' := .slice B n cp) HA.out hlt (HWn.out) HNE.out (fun _ h => h)
  refine bodyPost_ret (results_cell_tmp_row rfl _ _ (w.heap.size + 1) 74 _ (0, 0) _ rfl (setPt_blk _ _ _ HA.out.r) Try.underlying74 rfl (by kernel_rfl)) rfl ?_
  exact hcl

set_option maxHeartbeats 1000000 in
set_option maxRecDepth 100000 in
theorem hearL_fs (C base : Nat) (v : Value) (cm cf cl : Int) (cmet _cowes : Bool) (cw : List Msg) (pm pa ps : Int) (px : Option Msg) {k : Int} (w : World)
    (hC : ChanAt w C base v ⟨cm, pm, cf, cw, cl, cmet, false⟩) (hp : PkCan pm cm pa ps (tb px)) (hs : 0 < ps) (hf0 : 0 ≤ cf) (hf1 : cf ≤ 1099511627776) (hl0 : 0 ≤ cl) (hl1 : cl ≤ 1099511627776) (hk : min (pa - cf + 1) (cw.length : Int) = k) (hk0 : ¬ 0 < k) (_hlw : cw.length ≤ 1099511627776) (ht : ps ≠ cl + 1) :
    Calls Try.prog 24 #[.pointer (some ⟨C, 0, none⟩), pkV pm cm pa ps (tb px)] w (HearR w C base v ⟨cm, pm, cf, cw, cl, true, true⟩ none false) := by
  have K1 := Lib.hid (fun w => scheck_any pm cm pa ps (tb px) w hp)
  obtain ⟨B, cp, rfl, hnc, hrd⟩ := hC.wait.form
  have hlt := hC.blk.lt
  have HRd := Lib.hid hrd
  obtain ⟨n, hn⟩ : ∃ n, cw.length = n := ⟨_, rfl⟩
  have HN := Lib.hid hn
  change cw.length ≤ cp at hnc
  have HBn : Hid (Blk w C 83 (chanC ⟨cm, pm, cf, cw, cl, cmet, false⟩ (.slice B n cp))) := by rw [← hn]; exact hC.blk
  have HWn : Hid (WaitAt w base (.slice B n cp) cw.length (txtL cw)) := by have := hC.wait; rw [← hn]; exact this
  have HNE : Hid (C ∉ rowOf (.slice B n cp)) := by rw [← hn]; exact hC.ne
  rw [hn] at hnc
  rw [hn] at _hlw
  have e3 : decide (0 < ps) = true := by simpa using hs
  have k1 : IntKind.i64.wrap (pa - cf) = pa - cf := IntWalk.i64_in _ (by have := hp.c0; have := hp.c1; omega)
  have k2 : IntKind.i64.wrap (pa - cf + 1) = pa - cf + 1 := IntWalk.i64_in _ (by have := hp.c0; have := hp.c1; omega)
  have hk2 : min (pa - cf + 1) (n : Int) = k := by rw [← hk, hn]
  have e6 : decide (0 < k) = false := by simp; omega
  clear hk hk0
  have k4 : IntKind.i64.wrap (cl + 1) = cl + 1 := IntWalk.i64_in _ (by omega)
  have e9 : (ps == cl + 1) = false := by simpa using ht
  clear ht
  clear hf0 hf1 hl0 hl1
  clear hs
  clear hp hC hrd hn
  change Calls _ _ _ _ (HearR w C base (.slice B cw.length cp) _ _ _)
  rw [HN.out]
  go_enter Try.func24, Try.ntmps24
  go_wp2_with fail
  (with_reducible refine (K1.out _).mono ?_)
  rintro e w1 ⟨rfl, hg1⟩
  have HA := Lib.hid (hear_start HBn.out hg1)
  clear hg1
  have q0 : w1.cell? ⟨w.heap.size, 0, none⟩ = some (i64 pm) := HA.out.q.cell 0
  have c1 : w1.cell? ⟨C, 1, none⟩ = some (i64 pm) := HA.out.c.cell 1
  go_wp2_with fail
  go_quiet (fail)
  rename_i nq
  have HA2 : Hid (HearAt w (w1.drewN nq) C #[i64 pm, i64 cm, i64 pa, i64 ps, strV (tb px)] #[.string ⟨#[]⟩, .bool false, .bool false] #[.string ⟨#[]⟩, .bool false, .bool false] #[i64 cm, i64 pm, i64 cf, .slice B n cp, i64 cl, .bool cmet, .bool false]) := HA.out.drewN nq
  clear q0 c1
  clear HA
  generalize w1.drewN nq = w2 at HA2 ⊢
  have HA := HA2
  clear HA2
  have q0 : w2.cell? ⟨w.heap.size, 0, none⟩ = some (i64 pm) := HA.out.q.cell 0
  have c1 : w2.cell? ⟨C, 1, none⟩ = some (i64 pm) := HA.out.c.cell 1
  go_wp2_with fail
  go_quiet (fail)
  rename_i nq
  have HA3 : Hid (HearAt w (w2.drewN nq) C #[i64 pm, i64 cm, i64 pa, i64 ps, strV (tb px)] #[.string ⟨#[]⟩, .bool false, .bool false] #[.string ⟨#[]⟩, .bool false, .bool false] #[i64 cm, i64 pm, i64 cf, .slice B n cp, i64 cl, .bool cmet, .bool false]) := HA.out.drewN nq
  clear q0 c1
  clear HA
  generalize w2.drewN nq = w3 at HA3 ⊢
  have HA := HA3
  clear HA3
  have q1 : w3.cell? ⟨w.heap.size, 1, none⟩ = some (i64 cm) := HA.out.q.cell 1
  have q3 : w3.cell? ⟨w.heap.size, 3, none⟩ = some (i64 ps) := HA.out.q.cell 3
  have h2 : w3.cell? ⟨w.heap.size + 1 + 1, 2, none⟩ = some (.bool false) := HA.out.h.cell 2
  have c0 : w3.cell? ⟨C, 0, none⟩ = some (i64 cm) := HA.out.c.cell 0
  have c6 : w3.cell? ⟨C, 6, none⟩ = some (.bool false) := HA.out.c.cell 6
  go_wp2_with fail
  refine wp_region_still_tail 25 (by kernel_rfl) (by kernel_rfl) ?_
  simp only [List.take_succ_cons, List.take_zero, List.drop_succ_cons, List.drop_zero]
  repeat (with_reducible refine wpStill_step ?_; intro K hK; go_simp; with_reducible refine hK _ ?_; clear hK K)
  with_reducible refine wpStill_nil ?_
  change wpList _ _ _ _ _ w3.drew
  have HA4 : Hid (HearAt w (w3.drew) C #[i64 pm, i64 cm, i64 pa, i64 ps, strV (tb px)] #[.string ⟨#[]⟩, .bool false, .bool false] #[.string ⟨#[]⟩, .bool false, .bool false] #[i64 cm, i64 pm, i64 cf, .slice B n cp, i64 cl, .bool cmet, .bool false]) := HA.out.drew
  clear q1 q3 h2 c0 c6
  clear HA
  generalize w3.drew = w4 at HA4 ⊢
  have HA := HA4
  clear HA4
  have c6 : w4.cell? ⟨C, 6, none⟩ = some (.bool false) := HA.out.c.cell 6
  have f6 : w4.frozen? ⟨C, 6, none⟩ = false := HA.out.c.frozen 6
  go_wp2_with fail
  have HA5 : Hid (HearAt w (w4.setCell ⟨C, 6, none⟩ (.bool true)) C #[i64 pm, i64 cm, i64 pa, i64 ps, strV (tb px)] #[.string ⟨#[]⟩, .bool false, .bool false] #[.string ⟨#[]⟩, .bool false, .bool false] #[i64 cm, i64 pm, i64 cf, .slice B n cp, i64 cl, .bool cmet, .bool true]) := HA.out.setC hlt 6 _
  clear c6 f6
  clear HA
  generalize w4.setCell ⟨C, 6, none⟩ (.bool true) = w5 at HA5 ⊢
  have HA := HA5
  clear HA5
  have q1 : w5.cell? ⟨w.heap.size, 1, none⟩ = some (i64 cm) := HA.out.q.cell 1
  have c0 : w5.cell? ⟨C, 0, none⟩ = some (i64 cm) := HA.out.c.cell 0
  go_wp2_with fail
  go_quiet (fail)
  rename_i nq
  have HA6 : Hid (HearAt w (w5.drewN nq) C #[i64 pm, i64 cm, i64 pa, i64 ps, strV (tb px)] #[.string ⟨#[]⟩, .bool false, .bool false] #[.string ⟨#[]⟩, .bool false, .bool false] #[i64 cm, i64 pm, i64 cf, .slice B n cp, i64 cl, .bool cmet, .bool true]) := HA.out.drewN nq
  clear q1 c0
  clear HA
  generalize w5.drewN nq = w6 at HA6 ⊢
  have HA := HA6
  clear HA6
  have c5 : w6.cell? ⟨C, 5, none⟩ = some (.bool cmet) := HA.out.c.cell 5
  have f5 : w6.frozen? ⟨C, 5, none⟩ = false := HA.out.c.frozen 5
  go_wp2_with fail
  have HA7 : Hid (HearAt w (w6.setCell ⟨C, 5, none⟩ (.bool true)) C #[i64 pm, i64 cm, i64 pa, i64 ps, strV (tb px)] #[.string ⟨#[]⟩, .bool false, .bool false] #[.string ⟨#[]⟩, .bool false, .bool false] #[i64 cm, i64 pm, i64 cf, .slice B n cp, i64 cl, .bool true, .bool true]) := HA.out.setC hlt 5 _
  clear c5 f5
  clear HA
  generalize w6.setCell ⟨C, 5, none⟩ (.bool true) = w7 at HA7 ⊢
  have HA := HA7
  clear HA7
  have q2 : w7.cell? ⟨w.heap.size, 2, none⟩ = some (i64 pa) := HA.out.q.cell 2
  have c2 : w7.cell? ⟨C, 2, none⟩ = some (i64 cf) := HA.out.c.cell 2
  have c3 : w7.cell? ⟨C, 3, none⟩ = some (.slice B n cp) := HA.out.c.cell 3
  go_wp2_with fail
  go_quiet (fail)
  rename_i nq
  have HA8 : Hid (HearAt w (w7.drewN nq) C #[i64 pm, i64 cm, i64 pa, i64 ps, strV (tb px)] #[.string ⟨#[]⟩, .bool false, .bool false] #[.string ⟨#[]⟩, .bool false, .bool false] #[i64 cm, i64 pm, i64 cf, .slice B n cp, i64 cl, .bool true, .bool true]) := HA.out.drewN nq
  clear q2 c2 c3
  clear HA
  generalize w7.drewN nq = w8 at HA8 ⊢
  have HA := HA8
  clear HA8
  have q3 : w8.cell? ⟨w.heap.size, 3, none⟩ = some (i64 ps) := HA.out.q.cell 3
  have c4 : w8.cell? ⟨C, 4, none⟩ = some (i64 cl) := HA.out.c.cell 4
  go_wp2_with fail
  go_quiet (fail)
  rename_i nq
  have HA9 : Hid (HearAt w (w8.drewN nq) C #[i64 pm, i64 cm, i64 pa, i64 ps, strV (tb px)] #[.string ⟨#[]⟩, .bool false, .bool false] #[.string ⟨#[]⟩, .bool false, .bool false] #[i64 cm, i64 pm, i64 cf, .slice B n cp, i64 cl, .bool true, .bool true]) := HA.out.drewN nq
  clear q3 c4
  clear HA
  generalize w8.drewN nq = w9 at HA9 ⊢
  have HA := HA9
  clear HA9
  have h0 : w9.cell? ⟨w.heap.size + 1 + 1, 0, none⟩ = some (.string ⟨#[]⟩) := HA.out.h.cell 0
  have h1 : w9.cell? ⟨w.heap.size + 1 + 1, 1, none⟩ = some (.bool false) := HA.out.h.cell 1
  have h2 : w9.cell? ⟨w.heap.size + 1 + 1, 2, none⟩ = some (.bool false) := HA.out.h.cell 2
  have r0 : w9.cell? ⟨w.heap.size + 1, 0, none⟩ = some (.string ⟨#[]⟩) := HA.out.r.cell 0
  have r1 : w9.cell? ⟨w.heap.size + 1, 1, none⟩ = some (.bool false) := HA.out.r.cell 1
  have r2 : w9.cell? ⟨w.heap.size + 1, 2, none⟩ = some (.bool false) := HA.out.r.cell 2
  have g0 : w9.frozen? ⟨w.heap.size + 1, 0, none⟩ = false := HA.out.r.frozen 0
  have g1 : w9.frozen? ⟨w.heap.size + 1, 1, none⟩ = false := HA.out.r.frozen 1
  have g2 : w9.frozen? ⟨w.heap.size + 1, 2, none⟩ = false := HA.out.r.frozen 2
  go_wp2_with fail
  change bodyPost _ _ _ _ _ (setPt w9 (w.heap.size + 1) (.string ⟨#[]⟩) (.bool false) (.bool false))
  clear h0 h1 h2 r0 r1 r2 g0 g1 g2
  have hcl : HearR w C base (.slice B n cp) ⟨cm, pm, cf, cw, cl, true, true⟩ none false (.returned (.tuple #[.agg (heardC (none : Option Msg) false), .int .i64 0])) (setPt w9 (w.heap.size + 1) (strV (tb (none : Option Msg))) (.bool (Option.isSome (none : Option Msg))) (.bool false)) := hear_close (v' := .slice B n cp) HA.out hlt (HWn.out) HNE.out (fun _ h => h)
  refine bodyPost_ret (results_cell_tmp_row rfl _ _ (w.heap.size + 1) 74 _ (0, 0) _ rfl (setPt_blk _ _ _ HA.out.r) Try.underlying74 rfl (by kernel_rfl)) rfl ?_
  exact hcl

set_option maxHeartbeats 1000000 in
set_option maxRecDepth 100000 in
theorem hearL_ft (C base : Nat) (v : Value) (cm cf cl : Int) (cmet _cowes : Bool) (cw : List Msg) (pm pa ps : Int) (px : Option Msg) {k : Int} (w : World)
    (hC : ChanAt w C base v ⟨cm, pm, cf, cw, cl, cmet, false⟩) (hp : PkCan pm cm pa ps (tb px)) (hs : 0 < ps) (hf0 : 0 ≤ cf) (hf1 : cf ≤ 1099511627776) (hl0 : 0 ≤ cl) (hl1 : cl ≤ 1099511627776) (hk : min (pa - cf + 1) (cw.length : Int) = k) (hk0 : ¬ 0 < k) (_hlw : cw.length ≤ 1099511627776) (ht : ps = cl + 1) (hx : px.isSome = true) :
    Calls Try.prog 24 #[.pointer (some ⟨C, 0, none⟩), pkV pm cm pa ps (tb px)] w (HearR w C base v ⟨cm, pm, cf, cw, cl + 1, true, true⟩ px false) := by
  have K1 := Lib.hid (fun w => scheck_any pm cm pa ps (tb px) w hp)
  obtain ⟨B, cp, rfl, hnc, hrd⟩ := hC.wait.form
  have hlt := hC.blk.lt
  have HRd := Lib.hid hrd
  obtain ⟨n, hn⟩ : ∃ n, cw.length = n := ⟨_, rfl⟩
  have HN := Lib.hid hn
  change cw.length ≤ cp at hnc
  have HBn : Hid (Blk w C 83 (chanC ⟨cm, pm, cf, cw, cl, cmet, false⟩ (.slice B n cp))) := by rw [← hn]; exact hC.blk
  have HWn : Hid (WaitAt w base (.slice B n cp) cw.length (txtL cw)) := by have := hC.wait; rw [← hn]; exact this
  have HNE : Hid (C ∉ rowOf (.slice B n cp)) := by rw [← hn]; exact hC.ne
  rw [hn] at hnc
  rw [hn] at _hlw
  have e3 : decide (0 < ps) = true := by simpa using hs
  have k1 : IntKind.i64.wrap (pa - cf) = pa - cf := IntWalk.i64_in _ (by have := hp.c0; have := hp.c1; omega)
  have k2 : IntKind.i64.wrap (pa - cf + 1) = pa - cf + 1 := IntWalk.i64_in _ (by have := hp.c0; have := hp.c1; omega)
  have hk2 : min (pa - cf + 1) (n : Int) = k := by rw [← hk, hn]
  have e6 : decide (0 < k) = false := by simp; omega
  clear hk hk0
  have k4 : IntKind.i64.wrap (cl + 1) = cl + 1 := IntWalk.i64_in _ (by omega)
  have e9 : (ps == cl + 1) = true := by simpa using ht
  have HX := Lib.hid hx
  clear ht hx
  clear hf0 hf1 hl0 hl1
  clear hs
  clear hp hC hrd hn
  change Calls _ _ _ _ (HearR w C base (.slice B cw.length cp) _ _ _)
  rw [HN.out]
  go_enter Try.func24, Try.ntmps24
  go_wp2_with fail
  (with_reducible refine (K1.out _).mono ?_)
  rintro e w1 ⟨rfl, hg1⟩
  have HA := Lib.hid (hear_start HBn.out hg1)
  clear hg1
  have q0 : w1.cell? ⟨w.heap.size, 0, none⟩ = some (i64 pm) := HA.out.q.cell 0
  have c1 : w1.cell? ⟨C, 1, none⟩ = some (i64 pm) := HA.out.c.cell 1
  go_wp2_with fail
  go_quiet (fail)
  rename_i nq
  have HA2 : Hid (HearAt w (w1.drewN nq) C #[i64 pm, i64 cm, i64 pa, i64 ps, strV (tb px)] #[.string ⟨#[]⟩, .bool false, .bool false] #[.string ⟨#[]⟩, .bool false, .bool false] #[i64 cm, i64 pm, i64 cf, .slice B n cp, i64 cl, .bool cmet, .bool false]) := HA.out.drewN nq
  clear q0 c1
  clear HA
  generalize w1.drewN nq = w2 at HA2 ⊢
  have HA := HA2
  clear HA2
  have q0 : w2.cell? ⟨w.heap.size, 0, none⟩ = some (i64 pm) := HA.out.q.cell 0
  have c1 : w2.cell? ⟨C, 1, none⟩ = some (i64 pm) := HA.out.c.cell 1
  go_wp2_with fail
  go_quiet (fail)
  rename_i nq
  have HA3 : Hid (HearAt w (w2.drewN nq) C #[i64 pm, i64 cm, i64 pa, i64 ps, strV (tb px)] #[.string ⟨#[]⟩, .bool false, .bool false] #[.string ⟨#[]⟩, .bool false, .bool false] #[i64 cm, i64 pm, i64 cf, .slice B n cp, i64 cl, .bool cmet, .bool false]) := HA.out.drewN nq
  clear q0 c1
  clear HA
  generalize w2.drewN nq = w3 at HA3 ⊢
  have HA := HA3
  clear HA3
  have q1 : w3.cell? ⟨w.heap.size, 1, none⟩ = some (i64 cm) := HA.out.q.cell 1
  have q3 : w3.cell? ⟨w.heap.size, 3, none⟩ = some (i64 ps) := HA.out.q.cell 3
  have h2 : w3.cell? ⟨w.heap.size + 1 + 1, 2, none⟩ = some (.bool false) := HA.out.h.cell 2
  have c0 : w3.cell? ⟨C, 0, none⟩ = some (i64 cm) := HA.out.c.cell 0
  have c6 : w3.cell? ⟨C, 6, none⟩ = some (.bool false) := HA.out.c.cell 6
  go_wp2_with fail
  refine wp_region_still_tail 25 (by kernel_rfl) (by kernel_rfl) ?_
  simp only [List.take_succ_cons, List.take_zero, List.drop_succ_cons, List.drop_zero]
  repeat (with_reducible refine wpStill_step ?_; intro K hK; go_simp; with_reducible refine hK _ ?_; clear hK K)
  with_reducible refine wpStill_nil ?_
  change wpList _ _ _ _ _ w3.drew
  have HA4 : Hid (HearAt w (w3.drew) C #[i64 pm, i64 cm, i64 pa, i64 ps, strV (tb px)] #[.string ⟨#[]⟩, .bool false, .bool false] #[.string ⟨#[]⟩, .bool false, .bool false] #[i64 cm, i64 pm, i64 cf, .slice B n cp, i64 cl, .bool cmet, .bool false]) := HA.out.drew
  clear q1 q3 h2 c0 c6
  clear HA
  generalize w3.drew = w4 at HA4 ⊢
  have HA := HA4
  clear HA4
  have c6 : w4.cell? ⟨C, 6, none⟩ = some (.bool false) := HA.out.c.cell 6
  have f6 : w4.frozen? ⟨C, 6, none⟩ = false := HA.out.c.frozen 6
  go_wp2_with fail
  have HA5 : Hid (HearAt w (w4.setCell ⟨C, 6, none⟩ (.bool true)) C #[i64 pm, i64 cm, i64 pa, i64 ps, strV (tb px)] #[.string ⟨#[]⟩, .bool false, .bool false] #[.string ⟨#[]⟩, .bool false, .bool false] #[i64 cm, i64 pm, i64 cf, .slice B n cp, i64 cl, .bool cmet, .bool true]) := HA.out.setC hlt 6 _
  clear c6 f6
  clear HA
  generalize w4.setCell ⟨C, 6, none⟩ (.bool true) = w5 at HA5 ⊢
  have HA := HA5
  clear HA5
  have q1 : w5.cell? ⟨w.heap.size, 1, none⟩ = some (i64 cm) := HA.out.q.cell 1
  have c0 : w5.cell? ⟨C, 0, none⟩ = some (i64 cm) := HA.out.c.cell 0
  go_wp2_with fail
  go_quiet (fail)
  rename_i nq
  have HA6 : Hid (HearAt w (w5.drewN nq) C #[i64 pm, i64 cm, i64 pa, i64 ps, strV (tb px)] #[.string ⟨#[]⟩, .bool false, .bool false] #[.string ⟨#[]⟩, .bool false, .bool false] #[i64 cm, i64 pm, i64 cf, .slice B n cp, i64 cl, .bool cmet, .bool true]) := HA.out.drewN nq
  clear q1 c0
  clear HA
  generalize w5.drewN nq = w6 at HA6 ⊢
  have HA := HA6
  clear HA6
  have c5 : w6.cell? ⟨C, 5, none⟩ = some (.bool cmet) := HA.out.c.cell 5
  have f5 : w6.frozen? ⟨C, 5, none⟩ = false := HA.out.c.frozen 5
  go_wp2_with fail
  have HA7 : Hid (HearAt w (w6.setCell ⟨C, 5, none⟩ (.bool true)) C #[i64 pm, i64 cm, i64 pa, i64 ps, strV (tb px)] #[.string ⟨#[]⟩, .bool false, .bool false] #[.string ⟨#[]⟩, .bool false, .bool false] #[i64 cm, i64 pm, i64 cf, .slice B n cp, i64 cl, .bool true, .bool true]) := HA.out.setC hlt 5 _
  clear c5 f5
  clear HA
  generalize w6.setCell ⟨C, 5, none⟩ (.bool true) = w7 at HA7 ⊢
  have HA := HA7
  clear HA7
  have q2 : w7.cell? ⟨w.heap.size, 2, none⟩ = some (i64 pa) := HA.out.q.cell 2
  have c2 : w7.cell? ⟨C, 2, none⟩ = some (i64 cf) := HA.out.c.cell 2
  have c3 : w7.cell? ⟨C, 3, none⟩ = some (.slice B n cp) := HA.out.c.cell 3
  go_wp2_with fail
  go_quiet (fail)
  rename_i nq
  have HA8 : Hid (HearAt w (w7.drewN nq) C #[i64 pm, i64 cm, i64 pa, i64 ps, strV (tb px)] #[.string ⟨#[]⟩, .bool false, .bool false] #[.string ⟨#[]⟩, .bool false, .bool false] #[i64 cm, i64 pm, i64 cf, .slice B n cp, i64 cl, .bool true, .bool true]) := HA.out.drewN nq
  clear q2 c2 c3
  clear HA
  generalize w7.drewN nq = w8 at HA8 ⊢
  have HA := HA8
  clear HA8
  have q3 : w8.cell? ⟨w.heap.size, 3, none⟩ = some (i64 ps) := HA.out.q.cell 3
  have c4 : w8.cell? ⟨C, 4, none⟩ = some (i64 cl) := HA.out.c.cell 4
  go_wp2_with fail
  go_quiet (fail)
  rename_i nq
  have HA9 : Hid (HearAt w (w8.drewN nq) C #[i64 pm, i64 cm, i64 pa, i64 ps, strV (tb px)] #[.string ⟨#[]⟩, .bool false, .bool false] #[.string ⟨#[]⟩, .bool false, .bool false] #[i64 cm, i64 pm, i64 cf, .slice B n cp, i64 cl, .bool true, .bool true]) := HA.out.drewN nq
  clear q3 c4
  clear HA
  generalize w8.drewN nq = w9 at HA9 ⊢
  have HA := HA9
  clear HA9
  have h0 : w9.cell? ⟨w.heap.size + 1 + 1, 0, none⟩ = some (.string ⟨#[]⟩) := HA.out.h.cell 0
  have h1 : w9.cell? ⟨w.heap.size + 1 + 1, 1, none⟩ = some (.bool false) := HA.out.h.cell 1
  have h2 : w9.cell? ⟨w.heap.size + 1 + 1, 2, none⟩ = some (.bool false) := HA.out.h.cell 2
  have r0 : w9.cell? ⟨w.heap.size + 1, 0, none⟩ = some (.string ⟨#[]⟩) := HA.out.r.cell 0
  have r1 : w9.cell? ⟨w.heap.size + 1, 1, none⟩ = some (.bool false) := HA.out.r.cell 1
  have r2 : w9.cell? ⟨w.heap.size + 1, 2, none⟩ = some (.bool false) := HA.out.r.cell 2
  have c4 : w9.cell? ⟨C, 4, none⟩ = some (i64 cl) := HA.out.c.cell 4
  have q4 : w9.cell? ⟨w.heap.size, 4, none⟩ = some (strV (tb px)) := HA.out.q.cell 4
  have g0 : w9.frozen? ⟨w.heap.size + 1, 0, none⟩ = false := HA.out.r.frozen 0
  have g1 : w9.frozen? ⟨w.heap.size + 1, 1, none⟩ = false := HA.out.r.frozen 1
  have g2 : w9.frozen? ⟨w.heap.size + 1, 2, none⟩ = false := HA.out.r.frozen 2
  have f4 : w9.frozen? ⟨C, 4, none⟩ = false := HA.out.c.frozen 4
  have m0 : w9.frozen? ⟨w.heap.size + 1 + 1, 0, none⟩ = false := HA.out.h.frozen 0
  have m1 : w9.frozen? ⟨w.heap.size + 1 + 1, 1, none⟩ = false := HA.out.h.frozen 1
  go_wp2_with fail
  change bodyPost _ _ _ _ _ (setPt (((w9.setCell ⟨C, 4, none⟩ (i64 (cl + 1))).setCell ⟨w.heap.size + 1 + 1, 0, none⟩ (strV (tb px))).setCell ⟨w.heap.size + 1 + 1, 1, none⟩ (.bool true)) (w.heap.size + 1) (strV (tb px)) (.bool true) (.bool false))
  have HA10 : Hid (HearAt w (w9.setCell ⟨C, 4, none⟩ (i64 (cl + 1))) C #[i64 pm, i64 cm, i64 pa, i64 ps, strV (tb px)] #[.string ⟨#[]⟩, .bool false, .bool false] #[.string ⟨#[]⟩, .bool false, .bool false] #[i64 cm, i64 pm, i64 cf, .slice B n cp, i64 (cl + 1), .bool true, .bool true]) := HA.out.setC hlt 4 _
  clear h0 h1 h2 r0 r1 r2 c4 q4 g0 g1 g2 f4 m0 m1
  clear HA
  generalize w9.setCell ⟨C, 4, none⟩ (i64 (cl + 1)) = w10 at HA10 ⊢
  have HA := HA10
  clear HA10
  have HA11 : Hid (HearAt w (w10.setCell ⟨w.heap.size + 1 + 1, 0, none⟩ (strV (tb px))) C #[i64 pm, i64 cm, i64 pa, i64 ps, strV (tb px)] #[.string ⟨#[]⟩, .bool false, .bool false] #[strV (tb px), .bool false, .bool false] #[i64 cm, i64 pm, i64 cf, .slice B n cp, i64 (cl + 1), .bool true, .bool true]) := HA.out.setH hlt 0 _
  clear HA
  generalize w10.setCell ⟨w.heap.size + 1 + 1, 0, none⟩ (strV (tb px)) = w11 at HA11 ⊢
  have HA := HA11
  clear HA11
  have HA12 : Hid (HearAt w (w11.setCell ⟨w.heap.size + 1 + 1, 1, none⟩ (.bool true)) C #[i64 pm, i64 cm, i64 pa, i64 ps, strV (tb px)] #[.string ⟨#[]⟩, .bool false, .bool false] #[strV (tb px), .bool true, .bool false] #[i64 cm, i64 pm, i64 cf, .slice B n cp, i64 (cl + 1), .bool true, .bool true]) := HA.out.setH hlt 1 _
  clear HA
  generalize w11.setCell ⟨w.heap.size + 1 + 1, 1, none⟩ (.bool true) = w12 at HA12 ⊢
  have HA := HA12
  clear HA12
  have hcl : HearR w C base (.slice B n cp) ⟨cm, pm, cf, cw, cl + 1, true, true⟩ px false (.returned (.tuple #[.agg (heardC px false), .int .i64 0])) (setPt w12 (w.heap.size + 1) (strV (tb px)) (.bool (Option.isSome px)) (.bool false)) := hear_close (v' := .slice B n cp) HA.out hlt (HWn.out) HNE.out (fun _ h => h)
  have hx := HX.out
  rw [hx] at hcl
  refine bodyPost_ret (results_cell_tmp_row rfl _ _ (w.heap.size + 1) 74 _ (0, 0) _ rfl (setPt_blk _ _ _ HA.out.r) Try.underlying74 rfl (by kernel_rfl)) rfl ?_
  simp only [heardC, hx] at hcl
  exact hcl
end Go.Proofs.Yteajdkneiejlaaa
