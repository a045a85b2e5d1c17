/- The walks of a disk's Sync, Read, Size. -/
import Derived.StillTailTactics
import Derived.Test.YtofnehgjkdcmnaaGreatDoorGLgDisk
namespace Go.Proofs.YtofnehgjkdcmnaaGreatDoor
open Go.RowKit Hg

theorem openF_live {D : LD} {n : Nat} {f : LFile} (hd : D.dead = false) (hf : lget D.files n = some f) : openF D n = f ∧ openE D n = 0 := by
  unfold openF openE findE fileOr
  rw [hd, hf]; exact ⟨rfl, rfl⟩
theorem openE_dead {D : LD} {n : Nat} (hd : D.dead = true) : openF D n = ⟨[], 0⟩ ∧ openE D n = 12 := by
  unfold openF openE
  rw [hd]; exact ⟨rfl, rfl⟩

/-- a dead disk syncs nothing -/
theorem sync_dead (d M n : Nat) (D : LD) (w : World) (h : DiskAt w d M D) (hn : n < 100000000) (hd : D.dead = true) :
    Calls Tryz.prog 23 #[.pointer (some ⟨d, 0, none⟩), strV (logName n)] w (Ret (i64 12) w) := by
  have O1 := Lib.hid (open_any d M n D w h hn)
  rw [(openE_dead hd).1, (openE_dead hd).2] at O1
  clear h
  go_enter Tryz.func23, Tryz.ntmps23
  go_wp2_with fail
  (with_reducible refine O1.out.mono ?_)
  rintro e w1 ⟨rfl, hg1⟩
  have HG1 := Lib.hid hg1
  clear hg1
  go_wp2_with fail
  go_returns
  exact ⟨rfl, HG1.out.alloc _⟩

/-- of a file that is there all bytes are made sure -/
def synced (D : LD) (n : Nat) (f : LFile) : LD := { D with files := lset D.files n ⟨f.s, f.s.length⟩ }
theorem size_set {l : List (Nat × LFile)} (h : ∀ x ∈ l, x.2.s.length ≤ 4194304 ∧ x.2.sure ≤ x.2.s.length) (n : Nat) (f : LFile) (hf : f.s.length ≤ 4194304 ∧ f.sure ≤ f.s.length) : ∀ x ∈ lset l n f, x.2.s.length ≤ 4194304 ∧ x.2.sure ≤ x.2.s.length := by
  intro x hx
  unfold lset at hx
  obtain ⟨y, hy, rfl⟩ := List.mem_map.1 hx
  split
  · exact hf
  · exact h y hy
theorem get_mem {l : List (Nat × LFile)} {n : Nat} {f : LFile} (h : lget l n = some f) : (n, f) ∈ l := by
  unfold lget at h
  rw [Option.map_eq_some_iff] at h
  obtain ⟨x, hx, rfl⟩ := h
  have h1 := List.find?_some hx
  have h2 := List.mem_of_find?_eq_some hx
  simp at h1
  rw [← h1]; exact h2

theorem map_tight {w : World} {M n : Nat} {l : List (Nat × LFile)} (h : w.ownsMap Tryz.prog 9 fileR M n (mapD l)) : w.ownsMap Tryz.prog 9 fileR M l.length (mapD l) := by
  obtain ⟨es, clock, hb, F, hs, hD⟩ := h
  refine ⟨es, clock, hb, F, ?_, hD⟩
  unfold mapD at hD
  injection hD with hD
  have := congrArg List.length hD
  rw [length_sorted] at this
  simp at this
  omega
theorem map_grown {w w' : World} {M : Nat} (h : w.grownBy w' (some M)) : Chg [M] w w' := Chg.of_grown h (fun k e => .inl (by injection e with e; subst e; simp))

set_option maxHeartbeats 1000000 in
set_option maxRecDepth 100000 in
theorem sync_ok (d M n : Nat) (D : LD) (f : LFile) (w : World) (h : DiskAt w d M D) (hn : n < 100000000) (hd : D.dead = false) (hf : lget D.files n = some f) (hl64 : D.files.length ≤ 1000) :
    Calls Tryz.prog 23 #[.pointer (some ⟨d, 0, none⟩), strV (logName n)] w fun e w' => e = .returned (i64 0) ∧ DiskAt w' d M (synced D n f) ∧ Chg [d, M] w w' := by
  have O1 := Lib.hid (open_any d M n D w h hn)
  rw [(openF_live hd hf).1, (openF_live hd hf).2] at O1
  have H0 := Lib.hid h
  have hfl := h.size _ (get_mem hf)
  clear h
  go_enter Tryz.func23, Tryz.ntmps23
  go_wp2_with fail
  (with_reducible refine O1.out.mono ?_)
  rintro e w1 ⟨rfl, hg1⟩
  have HG1 := Lib.hid hg1
  clear hg1
  go_wp2_with fail
  have hA := (Chg.refl [] w1).alloc (.cells #[strV f.s, i64 (f.s.length : Int)] 85)
  have hD2 := (H0.out.new_ HG1.out).new_ hA
  have hB := Blk.new w1 85 #[strV f.s, i64 (f.s.length : Int)]
  have hC2 : Chg [] w (w1.alloc (.cells #[strV f.s, i64 (f.s.length : Int)] 85)) := HG1.out.trans hA
  clear hA
  obtain ⟨F, hF⟩ : ∃ F, w1.heap.size = F := ⟨_, rfl⟩
  rw [hF] at hB
  simp only [hF]
  clear hF
  generalize w1.alloc (.cells #[strV f.s, i64 (f.s.length : Int)] 85) = wr at hD2 hB hC2 ⊢
  have c0 : wr.cell? ⟨d, 0, none⟩ = some (.map (some M)) := hD2.blk.cell 0
  have b0 : wr.cell? ⟨F, 0, none⟩ = some (strV f.s) := hB.cell 0
  have b1 : wr.cell? ⟨F, 1, none⟩ = some (i64 (f.s.length : Int)) := hB.cell 1
  have HD2 := Lib.hid hD2
  have HC2 := Lib.hid hC2
  clear hD2 hB hC2 HG1 O1
  refine wp_region_still_tail 6 (by kernel_rfl) (by kernel_rfl) ?_
  simp only [List.take_succ_cons, List.take_zero, List.drop_succ_cons, List.drop_zero]
  repeat (with_reducible refine wpStill_step ?_; intro K hK; go_simp; with_reducible refine hK _ ?_; clear hK K)
  with_reducible refine wpStill_nil ?_
  change wpList _ _ _ _ _ wr.drew
  clear c0 b0 b1
  have HD3 := Lib.hid (HD2.out.new_ (Chg.refl [] wr).drew)
  have HC3 : Hid (Chg [] w wr.drew) := HC2.out.drew
  clear HD2 HC2
  generalize wr.drew = w2 at HD3 HC3 ⊢
  go_wp2_with (at_mapUpdate; refine wpList_mapUpdate_own _ rfl _ _ _ 46 rfl 9 85 disk_key Tryz.underlying46 fileR M D.files.length (mapD D.files) rfl HD3.out.map (by unfold maxLen; omega) (strV (logName n)) (fileV ⟨f.s, f.s.length⟩) (keyL n) rfl rfl (key_of n) (fileD ⟨f.s, f.s.length⟩) [] (fileR_mk _) ?_)
  intro w3 hown3 hgrow3
  have hN : DiskAt w3 d M (synced D n f) := by
    have hg := map_grown hgrow3
    have hp := put_set HD3.out.asc hn hf ⟨f.s, f.s.length⟩
    rw [hp] at hown3
    have hdM : d ≠ M := fun e => by
      have h1 := HD3.out.blk
      obtain ⟨es, clock, hb, _⟩ := HD3.out.map
      unfold Blk at h1
      rw [e, hb] at h1; cases h1
    exact ⟨HD3.out.blk.chg hg (by simpa using hdM), map_tight hown3, HD3.out.asc.set n _, size_set HD3.out.size n _ ⟨hfl.1, Nat.le_refl _⟩, HD3.out.room⟩
  have HF : Hid (DiskAt w3 d M (synced D n f) ∧ Chg [d, M] w w3) := ⟨hN, (HC3.out.mono (by simp)).trans ((map_grown hgrow3).mono (by intro k _ hk; simp at hk ⊢; exact .inr hk))⟩
  clear hN hown3 hgrow3 HD3 HC3
  go_wp2_with fail
  go_returns
  exact ⟨rfl, HF.out⟩
end Go.Proofs.YtofnehgjkdcmnaaGreatDoor
