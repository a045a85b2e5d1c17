/- The walks of a disk's Append. -/
import Derived.Laws.Concat
import Derived.Test.YtofnehgjkdcmnaaGreatDoorGLgDisk4
namespace Go.Proofs.YtofnehgjkdcmnaaGreatDoor
open Go.RowKit Hg

set_option maxHeartbeats 1000000 in
set_option maxRecDepth 100000 in
theorem append_dead (d M n : Nat) (D : LD) (s : Bytes) (w : World) (h : DiskAt w d M D) (hn : n < 100000000) (hd : D.dead = true) :
    Calls Tryz.prog 16 #[.pointer (some ⟨d, 0, none⟩), strV (logName n), strV s] w (Ret (i64 12) w) := by
  have O1 := Lib.hid (open_any d M n D w h hn)
  rw [(openE_dead hd).1, (openE_dead hd).2] at O1
  clear h
  go_enter Tryz.func16, Tryz.ntmps16
  go_wp2_with fail
  (with_reducible refine O1.out.mono ?_)
  rintro e w1 ⟨rfl, hg1⟩
  have HG1 := Lib.hid hg1
  clear hg1
  go_wp2_with fail
  go_returns
  exact ⟨rfl, HG1.out.alloc _⟩

theorem open_new {D : LD} {n : Nat} (hd : D.dead = false) (hf : lget D.files n = none) : openF D n = ⟨[], 0⟩ ∧ openE D n = 6 := by
  unfold openF openE findE fileOr
  rw [hd, hf]; exact ⟨rfl, rfl⟩
theorem map_len {w : World} {d M : Nat} {D : LD} (h : DiskAt w d M D) (ty : TypeId) : (Builtin.len_ #[46] ty #[.map (some M)]).run Tryz.prog w = .ok (.int .i64 (D.files.length : Int)) w := by
  have := h.map.len Tryz.underlying46 ty
  rw [this]
  simp [mapD, Go.Maps.size]

set_option maxHeartbeats 1000000 in
set_option maxRecDepth 100000 in
/-- a new file on a full disk -/
theorem append_full (d M n : Nat) (D : LD) (s : Bytes) (w : World) (h : DiskAt w d M D) (hn : n < 100000000) (hd : D.dead = false) (hf : lget D.files n = none) (hl : 64 ≤ D.files.length) :
    Calls Tryz.prog 16 #[.pointer (some ⟨d, 0, none⟩), strV (logName n), strV s] w (Ret (i64 8) w) := by
  have O1 := Lib.hid (open_any d M n D w h hn)
  rw [(open_new hd hf).1, (open_new hd hf).2] at O1
  have H0 := Lib.hid h
  have hl2 : (64 : Int) ≤ (D.files.length : Int) := by omega
  clear h
  go_enter Tryz.func16, Tryz.ntmps16
  go_wp2_with fail
  (with_reducible refine O1.out.mono ?_)
  rintro e w1 ⟨rfl, hg1⟩
  have HG1 := Lib.hid hg1
  have hA := (Chg.refl [] w1).alloc (.cells #[.string ⟨#[]⟩, i64 0] 85)
  have hD2 := (H0.out.new_ hg1).new_ hA
  have c0 : (w1.alloc (.cells #[.string ⟨#[]⟩, i64 0] 85)).cell? ⟨d, 0, none⟩ = some (.map (some M)) := hD2.blk.cell 0
  have ml := map_len hD2 3
  clear hg1 hA hD2
  go_wp2_with fail
  go_returns
  exact ⟨rfl, HG1.out.alloc _⟩

theorem cat_mk (a b : Bytes) : ByteArray.mk a.toArray ++ ByteArray.mk b.toArray = ⟨(a ++ b).toArray⟩ := by
  apply ByteArray.ext
  simp

theorem dead_disk {w : World} {d M : Nat} {D : LD} (h : DiskAt w d M D) {u : Value} (hu : i64 ((0 : Nat) : Int) = u) : DiskAt ((w.setCell ⟨d, 1, none⟩ u).setCell ⟨d, 2, none⟩ (.bool true)) d M { files := D.files, room := 0, dead := true } := by
  have hg : Chg [d] w ((w.setCell ⟨d, 1, none⟩ u).setCell ⟨d, 2, none⟩ (.bool true)) := ((Chg.refl [d] w).setCell (.inl (by simp)) u).setCell (.inl (by simp)) _
  have hM := disk_apart h
  refine ⟨?_, map_chg h.map hg (by simpa using Ne.symm hM), h.asc, h.size, Nat.zero_le _⟩
  have := (h.blk.set_ 1 u).set_ 2 (.bool true)
  rw [hu]; exact this

set_option maxHeartbeats 2000000 in
set_option maxRecDepth 100000 in
/-- what is laid behind a file's bytes -/
theorem append_go (d M n : Nat) (D : LD) (f : LFile) (en : Int) (s : Bytes) (P : LFile → List (Nat × LFile)) (w : World) (h : DiskAt w d M D) (hn : n < 100000000) (hd : D.dead = false) (hO : openF D n = f ∧ openE D n = en) (he : en = 0 ∨ (en = 6 ∧ D.files.length < 64)) (hl64 : D.files.length ≤ 1000)
    (hfl : f.s.length + s.length ≤ 4194304 ∧ f.sure ≤ f.s.length) (hput : ∀ g, (mapD D.files).put (keyL n) (fileD g) = mapD (P g)) (hasc : ∀ g, Asc (P g)) (hsz : ∀ g : LFile, g.s.length ≤ 4194304 ∧ g.sure ≤ g.s.length → ∀ x ∈ P g, x.2.s.length ≤ 4194304 ∧ x.2.sure ≤ x.2.s.length)
    (hr : s.length ≤ D.room) :
    Calls Tryz.prog 16 #[.pointer (some ⟨d, 0, none⟩), strV (logName n), strV s] w fun e w' => e = .returned (i64 0) ∧ DiskAt w' d M ⟨P ⟨f.s ++ s, f.sure⟩, D.room - s.length, false⟩ ∧ Chg [d, M] w w' := by
  have O1 := Lib.hid (open_any d M n D w h hn)
  rw [hO.1, hO.2] at O1
  have H0 := Lib.hid h
  have h1 : decide ((4194304 : Int) - (f.s.length : Int) < (s.length : Int)) = false := by simp; omega
  have h2 : ¬ ((D.room : Int) < (s.length : Int)) := by omega
  have h2' : ¬ (D.room < s.length) := by omega
  clear h hO
  rcases he with rfl | ⟨rfl, hlt⟩
  · go_enter Tryz.func16, Tryz.ntmps16
    go_wp2_with fail
    (with_reducible refine O1.out.mono ?_)
    rintro e w1 ⟨rfl, hg1⟩
    have hA := (Chg.refl [] w1).alloc (.cells #[strV f.s, i64 (f.sure : Int)] 85)
    have hD2 := (H0.out.new_ hg1).new_ hA
    have c1 : (w1.alloc (.cells #[strV f.s, i64 (f.sure : Int)] 85)).cell? ⟨d, 1, none⟩ = some (i64 (D.room : Int)) := hD2.blk.cell 1
    have HG1 := Lib.hid hg1
    clear hg1 hA hD2
    go_wp2_with fail
    have hA := (Chg.refl [] w1).alloc (.cells #[strV f.s, i64 (f.sure : Int)] 85)
    have hB := Blk.new w1 85 #[strV f.s, i64 (f.sure : Int)]
    have hC2 : Chg [] w (w1.alloc (.cells #[strV f.s, i64 (f.sure : Int)] 85)) := HG1.out.trans hA
    have hFw : w.heap.size ≤ w1.heap.size := HG1.out.size
    clear hA c1
    obtain ⟨F, hF⟩ : ∃ F, w1.heap.size = F := ⟨_, rfl⟩
    rw [hF] at hB hFw
    simp only [hF]
    clear hF
    generalize w1.alloc (.cells #[strV f.s, i64 (f.sure : Int)] 85) = wr at hB hC2 ⊢
    have b0 : wr.cell? ⟨F, 0, none⟩ = some (strV f.s) := hB.cell 0
    have e1 : (ByteArray.mk f.s.toArray) ++ (ByteArray.mk s.toArray).extract 0 s.length = ⟨(f.s ++ s).toArray⟩ := by rw [ext_n, List.take_length, cat_mk]
    have hcat : ∀ w, (Op.stringOp .add (ByteArray.mk f.s.toArray) ((ByteArray.mk s.toArray).extract 0 s.length)).run Tryz.prog w = .ok (strV (f.s ++ s)) w := fun w => by
      refine (run_string_add_sum _ _ _ ?_).trans (by rw [e1])
      rw [ext_n, List.take_length]
      show f.s.toArray.size + s.toArray.size ≤ _
      simp; omega
    clear e1
    have HB := Lib.hid hB
    have HC2 := Lib.hid hC2
    have HFw := Lib.hid hFw
    clear hB hC2 hFw HG1 O1
    refine wp_region_still_tail 7 (by kernel_rfl) (by kernel_rfl) ?_
    simp only [List.take_succ_cons, List.take_zero, List.drop_succ_cons, List.drop_zero]
    repeat (with_reducible refine wpStill_step ?_; intro K hK; go_simp; with_reducible refine hK _ ?_; clear hK K)
    with_reducible refine wpStill_nil ?_
    change wpList _ _ _ _ _ wr.drew
    clear b0
    have b0 : wr.drew.cell? ⟨F, 0, none⟩ = some (strV f.s) := HB.out.drew.cell 0
    have fz : wr.drew.frozen? ⟨F, 0, none⟩ = false := HB.out.drew.frozen 0
    clear hcat
    go_wp2_with fail
    have hC4 : Chg [] w (wr.setCell ⟨F, 0, none⟩ (strV (f.s ++ s))).drew := (HC2.out.setCell (.inr HFw.out) _).drew
    have hB4 : Blk (wr.setCell ⟨F, 0, none⟩ (strV (f.s ++ s))).drew F 85 #[strV (f.s ++ s), i64 (f.sure : Int)] := (HB.out.set_ 0 _).drew
    have hD4 := H0.out.new_ hC4
    clear b0 fz
    generalize (wr.setCell ⟨F, 0, none⟩ (strV (f.s ++ s))).drew = w4 at hC4 hB4 hD4 ⊢
    have c0 : w4.cell? ⟨d, 0, none⟩ = some (.map (some M)) := hD4.blk.cell 0
    have b0 : w4.cell? ⟨F, 0, none⟩ = some (strV (f.s ++ s)) := hB4.cell 0
    have b1 : w4.cell? ⟨F, 1, none⟩ = some (i64 (f.sure : Int)) := hB4.cell 1
    have HD4 := Lib.hid hD4
    have HC4 := Lib.hid hC4
    clear hC4 hB4 hD4 HB HC2
    refine wp_region_still_tail 6 (by kernel_rfl) (by kernel_rfl) ?_
    simp only [List.take_succ_cons, List.take_zero, List.drop_succ_cons, List.drop_zero]
    repeat (with_reducible refine wpStill_step ?_; intro K hK; go_simp; with_reducible refine hK _ ?_; clear hK K)
    with_reducible refine wpStill_nil ?_
    change wpList _ _ _ _ _ w4.drew
    clear c0 b0 b1
    have HD5 := Lib.hid (HD4.out.new_ (Chg.refl [] w4).drew)
    have HC5 : Hid (Chg [] w w4.drew) := HC4.out.drew
    clear HD4 HC4
    generalize w4.drew = w5 at HD5 HC5 ⊢
    go_wp2_with (at_mapUpdate; refine wpList_mapUpdate_own _ rfl _ _ _ 46 rfl 9 85 disk_key Tryz.underlying46 fileR M D.files.length (mapD D.files) rfl HD5.out.map (by unfold maxLen; omega) (strV (logName n)) (fileV ⟨f.s ++ s, f.sure⟩) (keyL n) rfl rfl (key_of n) (fileD ⟨f.s ++ s, f.sure⟩) [] (fileR_mk _) ?_)
    intro w6 hown6 hgrow6
    have hN : DiskAt w6 d M ⟨P ⟨f.s ++ s, f.sure⟩, D.room, D.dead⟩ := by
      have hg := map_grown hgrow6
      try rw [hput] at hown6
      exact ⟨HD5.out.blk.chg hg (by simpa using disk_apart HD5.out), map_tight hown6, hasc _, hsz _ (by have := hfl; dsimp only; rw [List.length_append]; first | omega | (rw [List.length_take]; omega)), HD5.out.room⟩
    have HF : Hid (DiskAt w6 d M ⟨P ⟨f.s ++ s, f.sure⟩, D.room, D.dead⟩ ∧ Chg [d, M] w w6) := ⟨hN, (HC5.out.mono (by simp)).trans ((map_grown hgrow6).mono (by intro k _ hk; simp at hk ⊢; exact .inr hk))⟩
    have c1 : w6.cell? ⟨d, 1, none⟩ = some (i64 (D.room : Int)) := hN.blk.cell 1
    have fz : w6.frozen? ⟨d, 1, none⟩ = false := hN.blk.frozen 1
    have hroom := HD5.out.room
    clear hN hown6 hgrow6 HD5 HC5
    go_wp2_with fail
    go_returns
    refine ⟨rfl, ?_, HF.out.2.setCell (.inl (by simp)) _⟩
    exact cut_disk HF.out.1 hd (D.room - s.length) (by omega) (by congr 1; omega)
  · go_enter Tryz.func16, Tryz.ntmps16
    go_wp2_with fail
    (with_reducible refine O1.out.mono ?_)
    rintro e w1 ⟨rfl, hg1⟩
    have hA := (Chg.refl [] w1).alloc (.cells #[strV f.s, i64 (f.sure : Int)] 85)
    have hD2 := (H0.out.new_ hg1).new_ hA
    have c1 : (w1.alloc (.cells #[strV f.s, i64 (f.sure : Int)] 85)).cell? ⟨d, 1, none⟩ = some (i64 (D.room : Int)) := hD2.blk.cell 1
    have c0 : (w1.alloc (.cells #[strV f.s, i64 (f.sure : Int)] 85)).cell? ⟨d, 0, none⟩ = some (.map (some M)) := hD2.blk.cell 0
    have ml := map_len hD2 3
    have h6 : decide ((64 : Int) ≤ (D.files.length : Int)) = false := by simp; omega
    have h6' : ¬ (64 ≤ D.files.length) := by omega
    have HG1 := Lib.hid hg1
    clear hg1 hA hD2
    go_wp2_with fail
    have hA := (Chg.refl [] w1).alloc (.cells #[strV f.s, i64 (f.sure : Int)] 85)
    have hB := Blk.new w1 85 #[strV f.s, i64 (f.sure : Int)]
    have hC2 : Chg [] w (w1.alloc (.cells #[strV f.s, i64 (f.sure : Int)] 85)) := HG1.out.trans hA
    have hFw : w.heap.size ≤ w1.heap.size := HG1.out.size
    clear hA c1 c0 ml h6 h6'
    obtain ⟨F, hF⟩ : ∃ F, w1.heap.size = F := ⟨_, rfl⟩
    rw [hF] at hB hFw
    simp only [hF]
    clear hF
    generalize w1.alloc (.cells #[strV f.s, i64 (f.sure : Int)] 85) = wr at hB hC2 ⊢
    have b0 : wr.cell? ⟨F, 0, none⟩ = some (strV f.s) := hB.cell 0
    have e1 : (ByteArray.mk f.s.toArray) ++ (ByteArray.mk s.toArray).extract 0 s.length = ⟨(f.s ++ s).toArray⟩ := by rw [ext_n, List.take_length, cat_mk]
    have hcat : ∀ w, (Op.stringOp .add (ByteArray.mk f.s.toArray) ((ByteArray.mk s.toArray).extract 0 s.length)).run Tryz.prog w = .ok (strV (f.s ++ s)) w := fun w => by
      refine (run_string_add_sum _ _ _ ?_).trans (by rw [e1])
      rw [ext_n, List.take_length]
      show f.s.toArray.size + s.toArray.size ≤ _
      simp; omega
    clear e1
    have HB := Lib.hid hB
    have HC2 := Lib.hid hC2
    have HFw := Lib.hid hFw
    clear hB hC2 hFw HG1 O1
    refine wp_region_still_tail 7 (by kernel_rfl) (by kernel_rfl) ?_
    simp only [List.take_succ_cons, List.take_zero, List.drop_succ_cons, List.drop_zero]
    repeat (with_reducible refine wpStill_step ?_; intro K hK; go_simp; with_reducible refine hK _ ?_; clear hK K)
    with_reducible refine wpStill_nil ?_
    change wpList _ _ _ _ _ wr.drew
    clear b0
    have b0 : wr.drew.cell? ⟨F, 0, none⟩ = some (strV f.s) := HB.out.drew.cell 0
    have fz : wr.drew.frozen? ⟨F, 0, none⟩ = false := HB.out.drew.frozen 0
    clear hcat
    go_wp2_with fail
    have hC4 : Chg [] w (wr.setCell ⟨F, 0, none⟩ (strV (f.s ++ s))).drew := (HC2.out.setCell (.inr HFw.out) _).drew
    have hB4 : Blk (wr.setCell ⟨F, 0, none⟩ (strV (f.s ++ s))).drew F 85 #[strV (f.s ++ s), i64 (f.sure : Int)] := (HB.out.set_ 0 _).drew
    have hD4 := H0.out.new_ hC4
    clear b0 fz
    generalize (wr.setCell ⟨F, 0, none⟩ (strV (f.s ++ s))).drew = w4 at hC4 hB4 hD4 ⊢
    have c0 : w4.cell? ⟨d, 0, none⟩ = some (.map (some M)) := hD4.blk.cell 0
    have b0 : w4.cell? ⟨F, 0, none⟩ = some (strV (f.s ++ s)) := hB4.cell 0
    have b1 : w4.cell? ⟨F, 1, none⟩ = some (i64 (f.sure : Int)) := hB4.cell 1
    have HD4 := Lib.hid hD4
    have HC4 := Lib.hid hC4
    clear hC4 hB4 hD4 HB HC2
    refine wp_region_still_tail 6 (by kernel_rfl) (by kernel_rfl) ?_
    simp only [List.take_succ_cons, List.take_zero, List.drop_succ_cons, List.drop_zero]
    repeat (with_reducible refine wpStill_step ?_; intro K hK; go_simp; with_reducible refine hK _ ?_; clear hK K)
    with_reducible refine wpStill_nil ?_
    change wpList _ _ _ _ _ w4.drew
    clear c0 b0 b1
    have HD5 := Lib.hid (HD4.out.new_ (Chg.refl [] w4).drew)
    have HC5 : Hid (Chg [] w w4.drew) := HC4.out.drew
    clear HD4 HC4
    generalize w4.drew = w5 at HD5 HC5 ⊢
    go_wp2_with (at_mapUpdate; refine wpList_mapUpdate_own _ rfl _ _ _ 46 rfl 9 85 disk_key Tryz.underlying46 fileR M D.files.length (mapD D.files) rfl HD5.out.map (by unfold maxLen; omega) (strV (logName n)) (fileV ⟨f.s ++ s, f.sure⟩) (keyL n) rfl rfl (key_of n) (fileD ⟨f.s ++ s, f.sure⟩) [] (fileR_mk _) ?_)
    intro w6 hown6 hgrow6
    have hN : DiskAt w6 d M ⟨P ⟨f.s ++ s, f.sure⟩, D.room, D.dead⟩ := by
      have hg := map_grown hgrow6
      try rw [hput] at hown6
      exact ⟨HD5.out.blk.chg hg (by simpa using disk_apart HD5.out), map_tight hown6, hasc _, hsz _ (by have := hfl; dsimp only; rw [List.length_append]; first | omega | (rw [List.length_take]; omega)), HD5.out.room⟩
    have HF : Hid (DiskAt w6 d M ⟨P ⟨f.s ++ s, f.sure⟩, D.room, D.dead⟩ ∧ Chg [d, M] w w6) := ⟨hN, (HC5.out.mono (by simp)).trans ((map_grown hgrow6).mono (by intro k _ hk; simp at hk ⊢; exact .inr hk))⟩
    have c1 : w6.cell? ⟨d, 1, none⟩ = some (i64 (D.room : Int)) := hN.blk.cell 1
    have fz : w6.frozen? ⟨d, 1, none⟩ = false := hN.blk.frozen 1
    have hroom := HD5.out.room
    clear hN hown6 hgrow6 HD5 HC5
    go_wp2_with fail
    go_returns
    refine ⟨rfl, ?_, HF.out.2.setCell (.inl (by simp)) _⟩
    exact cut_disk HF.out.1 hd (D.room - s.length) (by omega) (by congr 1; omega)

set_option maxHeartbeats 2000000 in
set_option maxRecDepth 100000 in
/-- a part alone of what is to be laid finds room: the disk is dead -/
theorem append_torn (d M n : Nat) (D : LD) (f : LFile) (en : Int) (s : Bytes) (P : LFile → List (Nat × LFile)) (w : World) (h : DiskAt w d M D) (hn : n < 100000000) (hd : D.dead = false) (hO : openF D n = f ∧ openE D n = en) (he : en = 0 ∨ (en = 6 ∧ D.files.length < 64)) (hl64 : D.files.length ≤ 1000)
    (hfl : f.s.length + s.length ≤ 4194304 ∧ f.sure ≤ f.s.length) (hput : ∀ g, (mapD D.files).put (keyL n) (fileD g) = mapD (P g)) (hasc : ∀ g, Asc (P g)) (hsz : ∀ g : LFile, g.s.length ≤ 4194304 ∧ g.sure ≤ g.s.length → ∀ x ∈ P g, x.2.s.length ≤ 4194304 ∧ x.2.sure ≤ x.2.s.length)
    (hr : D.room < s.length) :
    Calls Tryz.prog 16 #[.pointer (some ⟨d, 0, none⟩), strV (logName n), strV s] w fun e w' => e = .returned (i64 12) ∧ DiskAt w' d M ⟨P ⟨f.s ++ s.take D.room, f.sure⟩, 0, true⟩ ∧ Chg [d, M] w w' := by
  have O1 := Lib.hid (open_any d M n D w h hn)
  rw [hO.1, hO.2] at O1
  have H0 := Lib.hid h
  have h1 : decide ((4194304 : Int) - (f.s.length : Int) < (s.length : Int)) = false := by simp; omega
  have h2 : (D.room : Int) < (s.length : Int) := by omega
  have h3 : (D.room : Int) ≤ (s.length : Int) := by omega
  have h5 : (0 : Int) ≤ (D.room : Int) := by omega
  clear h hO
  rcases he with rfl | ⟨rfl, hlt⟩
  · go_enter Tryz.func16, Tryz.ntmps16
    go_wp2_with fail
    (with_reducible refine O1.out.mono ?_)
    rintro e w1 ⟨rfl, hg1⟩
    have hA := (Chg.refl [] w1).alloc (.cells #[strV f.s, i64 (f.sure : Int)] 85)
    have hD2 := (H0.out.new_ hg1).new_ hA
    have c1 : (w1.alloc (.cells #[strV f.s, i64 (f.sure : Int)] 85)).cell? ⟨d, 1, none⟩ = some (i64 (D.room : Int)) := hD2.blk.cell 1
    have HG1 := Lib.hid hg1
    clear hg1 hA hD2
    go_wp2_with fail
    have hA := (Chg.refl [] w1).alloc (.cells #[strV f.s, i64 (f.sure : Int)] 85)
    have hB := Blk.new w1 85 #[strV f.s, i64 (f.sure : Int)]
    have hC2 : Chg [] w (w1.alloc (.cells #[strV f.s, i64 (f.sure : Int)] 85)) := HG1.out.trans hA
    have hFw : w.heap.size ≤ w1.heap.size := HG1.out.size
    clear hA c1
    obtain ⟨F, hF⟩ : ∃ F, w1.heap.size = F := ⟨_, rfl⟩
    rw [hF] at hB hFw
    simp only [hF]
    clear hF
    generalize w1.alloc (.cells #[strV f.s, i64 (f.sure : Int)] 85) = wr at hB hC2 ⊢
    have b0 : wr.cell? ⟨F, 0, none⟩ = some (strV f.s) := hB.cell 0
    have e1 : (ByteArray.mk f.s.toArray) ++ (ByteArray.mk s.toArray).extract 0 D.room = ⟨(f.s ++ s.take D.room).toArray⟩ := by rw [ext_n, cat_mk]
    have hcat : ∀ w, (Op.stringOp .add (ByteArray.mk f.s.toArray) ((ByteArray.mk s.toArray).extract 0 D.room)).run Tryz.prog w = .ok (strV (f.s ++ s.take D.room)) w := fun w => by
      refine (run_string_add_sum _ _ _ ?_).trans (by rw [e1])
      rw [ext_n]
      show f.s.toArray.size + (s.take D.room).toArray.size ≤ _
      simp; omega
    clear e1
    have HB := Lib.hid hB
    have HC2 := Lib.hid hC2
    have HFw := Lib.hid hFw
    clear hB hC2 hFw HG1 O1
    refine wp_region_still_tail 7 (by kernel_rfl) (by kernel_rfl) ?_
    simp only [List.take_succ_cons, List.take_zero, List.drop_succ_cons, List.drop_zero]
    repeat (with_reducible refine wpStill_step ?_; intro K hK; go_simp; with_reducible refine hK _ ?_; clear hK K)
    with_reducible refine wpStill_nil ?_
    change wpList _ _ _ _ _ wr.drew
    clear b0
    have b0 : wr.drew.cell? ⟨F, 0, none⟩ = some (strV f.s) := HB.out.drew.cell 0
    have fz : wr.drew.frozen? ⟨F, 0, none⟩ = false := HB.out.drew.frozen 0
    clear hcat
    go_wp2_with fail
    have hC4 : Chg [] w (wr.setCell ⟨F, 0, none⟩ (strV (f.s ++ s.take D.room))).drew := (HC2.out.setCell (.inr HFw.out) _).drew
    have hB4 : Blk (wr.setCell ⟨F, 0, none⟩ (strV (f.s ++ s.take D.room))).drew F 85 #[strV (f.s ++ s.take D.room), i64 (f.sure : Int)] := (HB.out.set_ 0 _).drew
    have hD4 := H0.out.new_ hC4
    clear b0 fz
    generalize (wr.setCell ⟨F, 0, none⟩ (strV (f.s ++ s.take D.room))).drew = w4 at hC4 hB4 hD4 ⊢
    have c0 : w4.cell? ⟨d, 0, none⟩ = some (.map (some M)) := hD4.blk.cell 0
    have b0 : w4.cell? ⟨F, 0, none⟩ = some (strV (f.s ++ s.take D.room)) := hB4.cell 0
    have b1 : w4.cell? ⟨F, 1, none⟩ = some (i64 (f.sure : Int)) := hB4.cell 1
    have HD4 := Lib.hid hD4
    have HC4 := Lib.hid hC4
    clear hC4 hB4 hD4 HB HC2
    refine wp_region_still_tail 6 (by kernel_rfl) (by kernel_rfl) ?_
    simp only [List.take_succ_cons, List.take_zero, List.drop_succ_cons, List.drop_zero]
    repeat (with_reducible refine wpStill_step ?_; intro K hK; go_simp; with_reducible refine hK _ ?_; clear hK K)
    with_reducible refine wpStill_nil ?_
    change wpList _ _ _ _ _ w4.drew
    clear c0 b0 b1
    have HD5 := Lib.hid (HD4.out.new_ (Chg.refl [] w4).drew)
    have HC5 : Hid (Chg [] w w4.drew) := HC4.out.drew
    clear HD4 HC4
    generalize w4.drew = w5 at HD5 HC5 ⊢
    go_wp2_with (at_mapUpdate; refine wpList_mapUpdate_own _ rfl _ _ _ 46 rfl 9 85 disk_key Tryz.underlying46 fileR M D.files.length (mapD D.files) rfl HD5.out.map (by unfold maxLen; omega) (strV (logName n)) (fileV ⟨f.s ++ s.take D.room, f.sure⟩) (keyL n) rfl rfl (key_of n) (fileD ⟨f.s ++ s.take D.room, f.sure⟩) [] (fileR_mk _) ?_)
    intro w6 hown6 hgrow6
    have hN : DiskAt w6 d M ⟨P ⟨f.s ++ s.take D.room, f.sure⟩, D.room, D.dead⟩ := by
      have hg := map_grown hgrow6
      try rw [hput] at hown6
      exact ⟨HD5.out.blk.chg hg (by simpa using disk_apart HD5.out), map_tight hown6, hasc _, hsz _ (by have := hfl; dsimp only; rw [List.length_append]; first | omega | (rw [List.length_take]; omega)), HD5.out.room⟩
    have HF : Hid (DiskAt w6 d M ⟨P ⟨f.s ++ s.take D.room, f.sure⟩, D.room, D.dead⟩ ∧ Chg [d, M] w w6) := ⟨hN, (HC5.out.mono (by simp)).trans ((map_grown hgrow6).mono (by intro k _ hk; simp at hk ⊢; exact .inr hk))⟩
    have c1 : w6.cell? ⟨d, 1, none⟩ = some (i64 (D.room : Int)) := hN.blk.cell 1
    have fz : w6.frozen? ⟨d, 1, none⟩ = false := hN.blk.frozen 1
    have c2 : w6.cell? ⟨d, 2, none⟩ = some (.bool D.dead) := hN.blk.cell 2
    have fz2 : w6.frozen? ⟨d, 2, none⟩ = false := hN.blk.frozen 2
    have hroom := HD5.out.room
    clear hN hown6 hgrow6 HD5 HC5
    go_wp2_with fail
    go_returns
    exact ⟨rfl, dead_disk HF.out.1 (by congr 1 <;> omega), (HF.out.2.setCell (.inl (by simp)) _).setCell (.inl (by simp)) _⟩
  · go_enter Tryz.func16, Tryz.ntmps16
    go_wp2_with fail
    (with_reducible refine O1.out.mono ?_)
    rintro e w1 ⟨rfl, hg1⟩
    have hA := (Chg.refl [] w1).alloc (.cells #[strV f.s, i64 (f.sure : Int)] 85)
    have hD2 := (H0.out.new_ hg1).new_ hA
    have c1 : (w1.alloc (.cells #[strV f.s, i64 (f.sure : Int)] 85)).cell? ⟨d, 1, none⟩ = some (i64 (D.room : Int)) := hD2.blk.cell 1
    have c0 : (w1.alloc (.cells #[strV f.s, i64 (f.sure : Int)] 85)).cell? ⟨d, 0, none⟩ = some (.map (some M)) := hD2.blk.cell 0
    have ml := map_len hD2 3
    have h6 : decide ((64 : Int) ≤ (D.files.length : Int)) = false := by simp; omega
    have h6' : ¬ (64 ≤ D.files.length) := by omega
    have HG1 := Lib.hid hg1
    clear hg1 hA hD2
    go_wp2_with fail
    have hA := (Chg.refl [] w1).alloc (.cells #[strV f.s, i64 (f.sure : Int)] 85)
    have hB := Blk.new w1 85 #[strV f.s, i64 (f.sure : Int)]
    have hC2 : Chg [] w (w1.alloc (.cells #[strV f.s, i64 (f.sure : Int)] 85)) := HG1.out.trans hA
    have hFw : w.heap.size ≤ w1.heap.size := HG1.out.size
    clear hA c1 c0 ml h6 h6'
    obtain ⟨F, hF⟩ : ∃ F, w1.heap.size = F := ⟨_, rfl⟩
    rw [hF] at hB hFw
    simp only [hF]
    clear hF
    generalize w1.alloc (.cells #[strV f.s, i64 (f.sure : Int)] 85) = wr at hB hC2 ⊢
    have b0 : wr.cell? ⟨F, 0, none⟩ = some (strV f.s) := hB.cell 0
    have e1 : (ByteArray.mk f.s.toArray) ++ (ByteArray.mk s.toArray).extract 0 D.room = ⟨(f.s ++ s.take D.room).toArray⟩ := by rw [ext_n, cat_mk]
    have hcat : ∀ w, (Op.stringOp .add (ByteArray.mk f.s.toArray) ((ByteArray.mk s.toArray).extract 0 D.room)).run Tryz.prog w = .ok (strV (f.s ++ s.take D.room)) w := fun w => by
      refine (run_string_add_sum _ _ _ ?_).trans (by rw [e1])
      rw [ext_n]
      show f.s.toArray.size + (s.take D.room).toArray.size ≤ _
      simp; omega
    clear e1
    have HB := Lib.hid hB
    have HC2 := Lib.hid hC2
    have HFw := Lib.hid hFw
    clear hB hC2 hFw HG1 O1
    refine wp_region_still_tail 7 (by kernel_rfl) (by kernel_rfl) ?_
    simp only [List.take_succ_cons, List.take_zero, List.drop_succ_cons, List.drop_zero]
    repeat (with_reducible refine wpStill_step ?_; intro K hK; go_simp; with_reducible refine hK _ ?_; clear hK K)
    with_reducible refine wpStill_nil ?_
    change wpList _ _ _ _ _ wr.drew
    clear b0
    have b0 : wr.drew.cell? ⟨F, 0, none⟩ = some (strV f.s) := HB.out.drew.cell 0
    have fz : wr.drew.frozen? ⟨F, 0, none⟩ = false := HB.out.drew.frozen 0
    clear hcat
    go_wp2_with fail
    have hC4 : Chg [] w (wr.setCell ⟨F, 0, none⟩ (strV (f.s ++ s.take D.room))).drew := (HC2.out.setCell (.inr HFw.out) _).drew
    have hB4 : Blk (wr.setCell ⟨F, 0, none⟩ (strV (f.s ++ s.take D.room))).drew F 85 #[strV (f.s ++ s.take D.room), i64 (f.sure : Int)] := (HB.out.set_ 0 _).drew
    have hD4 := H0.out.new_ hC4
    clear b0 fz
    generalize (wr.setCell ⟨F, 0, none⟩ (strV (f.s ++ s.take D.room))).drew = w4 at hC4 hB4 hD4 ⊢
    have c0 : w4.cell? ⟨d, 0, none⟩ = some (.map (some M)) := hD4.blk.cell 0
    have b0 : w4.cell? ⟨F, 0, none⟩ = some (strV (f.s ++ s.take D.room)) := hB4.cell 0
    have b1 : w4.cell? ⟨F, 1, none⟩ = some (i64 (f.sure : Int)) := hB4.cell 1
    have HD4 := Lib.hid hD4
    have HC4 := Lib.hid hC4
    clear hC4 hB4 hD4 HB HC2
    refine wp_region_still_tail 6 (by kernel_rfl) (by kernel_rfl) ?_
    simp only [List.take_succ_cons, List.take_zero, List.drop_succ_cons, List.drop_zero]
    repeat (with_reducible refine wpStill_step ?_; intro K hK; go_simp; with_reducible refine hK _ ?_; clear hK K)
    with_reducible refine wpStill_nil ?_
    change wpList _ _ _ _ _ w4.drew
    clear c0 b0 b1
    have HD5 := Lib.hid (HD4.out.new_ (Chg.refl [] w4).drew)
    have HC5 : Hid (Chg [] w w4.drew) := HC4.out.drew
    clear HD4 HC4
    generalize w4.drew = w5 at HD5 HC5 ⊢
    go_wp2_with (at_mapUpdate; refine wpList_mapUpdate_own _ rfl _ _ _ 46 rfl 9 85 disk_key Tryz.underlying46 fileR M D.files.length (mapD D.files) rfl HD5.out.map (by unfold maxLen; omega) (strV (logName n)) (fileV ⟨f.s ++ s.take D.room, f.sure⟩) (keyL n) rfl rfl (key_of n) (fileD ⟨f.s ++ s.take D.room, f.sure⟩) [] (fileR_mk _) ?_)
    intro w6 hown6 hgrow6
    have hN : DiskAt w6 d M ⟨P ⟨f.s ++ s.take D.room, f.sure⟩, D.room, D.dead⟩ := by
      have hg := map_grown hgrow6
      try rw [hput] at hown6
      exact ⟨HD5.out.blk.chg hg (by simpa using disk_apart HD5.out), map_tight hown6, hasc _, hsz _ (by have := hfl; dsimp only; rw [List.length_append]; first | omega | (rw [List.length_take]; omega)), HD5.out.room⟩
    have HF : Hid (DiskAt w6 d M ⟨P ⟨f.s ++ s.take D.room, f.sure⟩, D.room, D.dead⟩ ∧ Chg [d, M] w w6) := ⟨hN, (HC5.out.mono (by simp)).trans ((map_grown hgrow6).mono (by intro k _ hk; simp at hk ⊢; exact .inr hk))⟩
    have c1 : w6.cell? ⟨d, 1, none⟩ = some (i64 (D.room : Int)) := hN.blk.cell 1
    have fz : w6.frozen? ⟨d, 1, none⟩ = false := hN.blk.frozen 1
    have c2 : w6.cell? ⟨d, 2, none⟩ = some (.bool D.dead) := hN.blk.cell 2
    have fz2 : w6.frozen? ⟨d, 2, none⟩ = false := hN.blk.frozen 2
    have hroom := HD5.out.room
    clear hN hown6 hgrow6 HD5 HC5
    go_wp2_with fail
    go_returns
    exact ⟨rfl, dead_disk HF.out.1 (by congr 1 <;> omega), (HF.out.2.setCell (.inl (by simp)) _).setCell (.inl (by simp)) _⟩
end Go.Proofs.YtofnehgjkdcmnaaGreatDoor

/- A disk's Append: of a file that is there, and of a new one. -/
namespace Go.Proofs.YtofnehgjkdcmnaaGreatDoor
open Go.RowKit Hg

/-- after an Append that the disk took: the bytes are at the file's end, not yet sure -/
def added (D : LD) (n : Nat) (f : LFile) (s : Bytes) : LD := ⟨lset D.files n ⟨f.s ++ s, f.sure⟩, D.room - s.length, false⟩
/-- after an Append that the disk could not take whole -/
def addTorn (D : LD) (n : Nat) (f : LFile) (s : Bytes) : LD := ⟨lset D.files n ⟨f.s ++ s.take D.room, f.sure⟩, 0, true⟩
def made (D : LD) (n : Nat) (s : Bytes) : LD := ⟨D.files ++ [(n, ⟨s, 0⟩)], D.room - s.length, false⟩
def madeTorn (D : LD) (n : Nat) (s : Bytes) : LD := ⟨D.files ++ [(n, ⟨s.take D.room, 0⟩)], 0, true⟩

theorem append_old (d M n : Nat) (D : LD) (f : LFile) (s : Bytes) (w : World) (h : DiskAt w d M D) (hn : n < 100000000) (hd : D.dead = false) (hf : lget D.files n = some f) (hl64 : D.files.length ≤ 1000)
    (hfl : f.s.length + s.length ≤ 4194304) (hr : s.length ≤ D.room) :
    Calls Tryz.prog 16 #[.pointer (some ⟨d, 0, none⟩), strV (logName n), strV s] w fun e w' => e = .returned (i64 0) ∧ DiskAt w' d M (added D n f s) ∧ Chg [d, M] w w' :=
  append_go d M n D f 0 s (fun g => lset D.files n g) w h hn hd (openF_live hd hf) (.inl rfl) hl64 ⟨hfl, (h.size _ (get_mem hf)).2⟩
    (fun g => put_set h.asc hn hf g) (fun g => h.asc.set n g) (fun g hg => size_set h.size n g hg) hr

theorem append_oldTorn (d M n : Nat) (D : LD) (f : LFile) (s : Bytes) (w : World) (h : DiskAt w d M D) (hn : n < 100000000) (hd : D.dead = false) (hf : lget D.files n = some f) (hl64 : D.files.length ≤ 1000)
    (hfl : f.s.length + s.length ≤ 4194304) (hr : D.room < s.length) :
    Calls Tryz.prog 16 #[.pointer (some ⟨d, 0, none⟩), strV (logName n), strV s] w fun e w' => e = .returned (i64 12) ∧ DiskAt w' d M (addTorn D n f s) ∧ Chg [d, M] w w' :=
  append_torn d M n D f 0 s (fun g => lset D.files n g) w h hn hd (openF_live hd hf) (.inl rfl) hl64 ⟨hfl, (h.size _ (get_mem hf)).2⟩
    (fun g => put_set h.asc hn hf g) (fun g => h.asc.set n g) (fun g hg => size_set h.size n g hg) hr

theorem size_new {l : List (Nat × LFile)} (h : ∀ x ∈ l, x.2.s.length ≤ 4194304 ∧ x.2.sure ≤ x.2.s.length) (n : Nat) (f : LFile) (hf : f.s.length ≤ 4194304 ∧ f.sure ≤ f.s.length) : ∀ x ∈ l ++ [(n, f)], x.2.s.length ≤ 4194304 ∧ x.2.sure ≤ x.2.s.length := by
  intro x hx
  rcases List.mem_append.1 hx with hx | hx
  · exact h x hx
  · simp only [List.mem_singleton] at hx; subst hx; exact hf

theorem append_new (d M n : Nat) (D : LD) (s : Bytes) (w : World) (h : DiskAt w d M D) (hn : n < 100000000) (hd : D.dead = false) (hl : ∀ x ∈ D.files, x.1 < n) (hl64 : D.files.length < 64)
    (hfl : s.length ≤ 4194304) (hr : s.length ≤ D.room) :
    Calls Tryz.prog 16 #[.pointer (some ⟨d, 0, none⟩), strV (logName n), strV s] w fun e w' => e = .returned (i64 0) ∧ DiskAt w' d M (made D n s) ∧ Chg [d, M] w w' :=
  append_go d M n D ⟨[], 0⟩ 6 s (fun g => D.files ++ [(n, g)]) w h hn hd (open_new hd (get_none hl)) (.inr ⟨rfl, hl64⟩) (by omega) ⟨by simpa using hfl, Nat.le_refl _⟩
    (fun g => put_new h.asc hn hl g) (fun g => h.asc.new_ hl hn g) (fun g hg => size_new h.size n g hg) hr

theorem append_newTorn (d M n : Nat) (D : LD) (s : Bytes) (w : World) (h : DiskAt w d M D) (hn : n < 100000000) (hd : D.dead = false) (hl : ∀ x ∈ D.files, x.1 < n) (hl64 : D.files.length < 64)
    (hfl : s.length ≤ 4194304) (hr : D.room < s.length) :
    Calls Tryz.prog 16 #[.pointer (some ⟨d, 0, none⟩), strV (logName n), strV s] w fun e w' => e = .returned (i64 12) ∧ DiskAt w' d M (madeTorn D n s) ∧ Chg [d, M] w w' :=
  append_torn d M n D ⟨[], 0⟩ 6 s (fun g => D.files ++ [(n, g)]) w h hn hd (open_new hd (get_none hl)) (.inr ⟨rfl, hl64⟩) (by omega) ⟨by simpa using hfl, Nat.le_refl _⟩
    (fun g => put_new h.asc hn hl g) (fun g => h.asc.new_ hl hn g) (fun g hg => size_new h.size n g hg) hr
end Go.Proofs.YtofnehgjkdcmnaaGreatDoor
