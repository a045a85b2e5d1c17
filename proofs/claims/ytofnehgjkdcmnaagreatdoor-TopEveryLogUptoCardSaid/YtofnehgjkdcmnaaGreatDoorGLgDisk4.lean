/- The walk of a disk's Truncate. -/
import Derived.Lib.Strings
import Derived.Test.YtofnehgjkdcmnaaGreatDoorGLgDisk3
namespace Go.Proofs.YtofnehgjkdcmnaaGreatDoor
open Go.RowKit Hg

/-- a file that is there, anew -/
def stored (D : LD) (n : Nat) (f : LFile) : LD := { D with files := lset D.files n f }
theorem stored_at {w w' : World} {d M n : Nat} {D : LD} {f0 f : LFile} (h : DiskAt w d M D) (hn : n < 100000000) (h0 : lget D.files n = some f0) (hf : f.s.length ≤ 4194304 ∧ f.sure ≤ f.s.length) {k : Nat}
    (hown : w'.ownsMap Tryz.prog 9 fileR M k ((mapD D.files).put (keyL n) (fileD f))) (hgrow : w.grownBy w' (some M)) : DiskAt w' d M (stored D n f) ∧ Chg [d, M] w w' := by
  have hg := map_grown hgrow
  rw [put_set h.asc hn h0 f] at hown
  have hdM := disk_apart h
  exact ⟨⟨h.blk.chg hg (by simpa using hdM), map_tight hown, h.asc.set n _, size_set h.size n _ hf, h.room⟩, hg.mono (by intro k _ hk; simp at hk ⊢; exact .inr hk)⟩

theorem ext_n (l : Bytes) (k : Nat) : (ByteArray.mk l.toArray).extract 0 k = ⟨(l.take k).toArray⟩ := by
  apply ByteArray.ext
  apply Array.ext'
  rw [Lib.extract_data]
  simp
theorem min_val (a k : Nat) : (Value.int .i64 (if k < a then (k : Int) else (a : Int))) = i64 ((min a k : Nat) : Int) := by
  congr 1
  split <;> omega

set_option maxHeartbeats 1000000 in
set_option maxRecDepth 100000 in
theorem trunc_ok (d M n k : Nat) (D : LD) (f : LFile) (w : World) (h : DiskAt w d M D) (hn : n < 100000000) (hd : D.dead = false) (hf : lget D.files n = some f) (hl64 : D.files.length ≤ 1000) (hk : k ≤ f.s.length) :
    Calls Tryz.prog 20 #[.pointer (some ⟨d, 0, none⟩), strV (logName n), i64 (k : Int)] w fun e w' => e = .returned (i64 0) ∧ DiskAt w' d M (stored D n ⟨f.s.take k, min f.sure k⟩) ∧ Chg [d, M] w w' := by
  have O1 := Lib.hid (open_any d M n D w h hn)
  rw [(openF_live hd hf).1, (openF_live hd hf).2] at O1
  have H0 := Lib.hid h
  have hfl := h.size _ (get_mem hf)
  have hk1 : decide ((f.s.length : Int) < (k : Int)) = false := by simp; omega
  have hk2 : (k : Int) ≤ (f.s.length : Int) := by omega
  have hk0 : (0 : Int) ≤ (k : Int) := by omega
  clear h
  go_enter Tryz.func20, Tryz.ntmps20
  go_wp2_with fail
  (with_reducible refine O1.out.mono ?_)
  rintro e w1 ⟨rfl, hg1⟩
  have HG1 := Lib.hid hg1
  clear hg1
  go_wp2_with fail
  have hA := (Chg.refl [] w1).alloc (.cells #[strV f.s, i64 (f.sure : Int)] 85)
  have hD2 := (H0.out.new_ HG1.out).new_ hA
  have hB := Blk.new w1 85 #[strV f.s, i64 (f.sure : Int)]
  have hC2 : Chg [] w (w1.alloc (.cells #[strV f.s, i64 (f.sure : Int)] 85)) := HG1.out.trans hA
  clear hA
  obtain ⟨F, hF⟩ : ∃ F, w1.heap.size = F := ⟨_, rfl⟩
  rw [hF] at hB
  simp only [hF]
  clear hF
  generalize w1.alloc (.cells #[strV f.s, i64 (f.sure : Int)] 85) = wr at hD2 hB hC2 ⊢
  have c0 : wr.cell? ⟨d, 0, none⟩ = some (.map (some M)) := hD2.blk.cell 0
  have b0 : wr.cell? ⟨F, 0, none⟩ = some (strV f.s) := hB.cell 0
  have b1 : wr.cell? ⟨F, 1, none⟩ = some (i64 (f.sure : Int)) := hB.cell 1
  have HD2 := Lib.hid hD2
  have HC2 := Lib.hid hC2
  clear hD2 hB hC2 HG1 O1
  refine wp_region_still_tail 14 (by kernel_rfl) (by kernel_rfl) ?_
  simp only [List.take_succ_cons, List.take_zero, List.drop_succ_cons, List.drop_zero]
  repeat (with_reducible refine wpStill_step ?_; intro K hK; go_simp; with_reducible refine hK _ ?_; clear hK K)
  with_reducible refine wpStill_nil ?_
  change wpList _ _ _ _ _ wr.drew
  clear c0 b0 b1
  have HD3 := Lib.hid (HD2.out.new_ (Chg.refl [] wr).drew)
  have HC3 : Hid (Chg [] w wr.drew) := HC2.out.drew
  clear HD2 HC2
  generalize wr.drew = w2 at HD3 HC3 ⊢
  rw [ext_n, min_val]
  go_wp2_with (at_mapUpdate; refine wpList_mapUpdate_own _ rfl _ _ _ 46 rfl 9 85 disk_key Tryz.underlying46 fileR M D.files.length (mapD D.files) rfl HD3.out.map (by unfold maxLen; omega) (strV (logName n)) (fileV ⟨f.s.take k, min f.sure k⟩) (keyL n) rfl rfl (key_of n) (fileD ⟨f.s.take k, min f.sure k⟩) [] (fileR_mk _) ?_)
  intro w3 hown3 hgrow3
  have hN := stored_at HD3.out hn hf (f := ⟨f.s.take k, min f.sure k⟩) (by have := hfl; dsimp only; rw [List.length_take]; omega) hown3 hgrow3
  have HF : Hid (DiskAt w3 d M (stored D n ⟨f.s.take k, min f.sure k⟩) ∧ Chg [d, M] w w3) := ⟨hN.1, (HC3.out.mono (by simp)).trans hN.2⟩
  clear hN hown3 hgrow3 HD3 HC3
  go_wp2_with fail
  go_returns
  exact ⟨rfl, HF.out⟩
end Go.Proofs.YtofnehgjkdcmnaaGreatDoor
