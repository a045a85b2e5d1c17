/- The walk of a disk's Files. -/
import Derived.Maps.RangeWalk
import Derived.Sort.KeysCollected
import Derived.Sort.OwnSorted
import Derived.Laws.AppendOwn
import Derived.Test.YtofnehgjkdcmnaaGreatDoorGLgDisk5
import Derived.Test.YtofnehgjkdcmnaaGreatDoorGShelf2
namespace Go.Proofs.YtofnehgjkdcmnaaGreatDoor
open Go.RowKit Go.Maps Go.Sort Hg

theorem infoStr : (Tryz.prog.info? 9).map (fun i => (i.zero, i.size, i.bytes)) = some (some (.string ⟨#[]⟩), 1, 16) := by kernel_rfl
abbrev namesOf (D : LD) : List (List UInt8) := D.files.map fun x => logName x.1
set_option maxHeartbeats 1000000 in
set_option maxRecDepth 100000 in
theorem files_any (d M : Nat) (D : LD) (w : World) (h : DiskAt w d M D) (hl64 : D.files.length ≤ 1000) :
    Calls Tryz.prog 13 #[.pointer (some ⟨d, 0, none⟩)] w fun e w' => ∃ v, e = .returned v ∧ w'.ownsRow w.heap.size 9 1 v D.files.length ((namesOf D).map encStr) ∧ Chg [] w w' := by
  obtain ⟨i0, hi, hz0, hz1, hz2⟩ := info_parts infoStr
  have hbl := h.map.lt
  have hown := h.map
  have hsz : Maps.size (mapD D.files) = D.files.length := by simp [mapD, Go.Maps.size]
  have hsk : strKeys (mapD D.files) = namesOf D := names_of _
  have hsr : (namesOf D).mergeSort (fun x y => decide (x ≤ y)) = namesOf D := names_sorted h.asc
  have c0 : w.cell? ⟨d, 0, none⟩ = some (.map (some M)) := h.blk.cell 0
  go_enter Tryz.func13, Tryz.ntmps13
  go_wp2_with (at_range; refine wpList_range_own _ rfl _ 46 rfl 9 85 disk_key Tryz.underlying46 _ M _ _ rfl hown ?_; intro w0 hrg0 hg0 hs0)
  go_frame
  go_loopw [3] (fun v wr => ∃ (left : Lit → Bool) (cnt : Nat) (ss : List (List UInt8)), wr.ranges Tryz.prog 9 fileR M w.heap.size D.files.length (mapD D.files) left cnt ∧ ss.length + cnt ≤ D.files.length ∧
      wr.ownsRow w.heap.size 9 1 v ss.length (ss.map encStr) ∧ Collected (mapD D.files) left ss ∧ Below w.heap.size w wr)
    (fun _ wr => wr.rangeLeft M w.heap.size)
  case atStart =>
    exact ⟨_, _, [], hrg0, by simp [hsz], ⟨by simp, .inl ⟨rfl, rfl⟩⟩, Collected.start _, (Below.refl _ _).grown hg0 (Nat.le_refl _) (fun j hj => by cases hj)⟩
  case round =>
    obtain ⟨left, cnt, ss, hrg, hcs, hrow, hC, hnx⟩ := hrel
    go_wp2_with (at_next; refine wpList_next_ranges _ rfl _ rfl 9 disk_key fileR encStr id (fun key kl hk => by obtain ⟨x, hx, _⟩ := Maps.keyOf_str Tryz.underlying9 hk; exact ⟨x, hx⟩) (fun v y hv => ⟨v, rfl⟩) M w.heap.size _ _ _ _ rfl hrg ?_ ?_)
    · intro hc0 hl0
      have hperm := hC.perm hown disk_key Tryz.underlying9 hl0
      rw [hsk] at hperm
      have hlen : ss.length = D.files.length := by rw [hperm.length_eq]; simp
      have hms : ss.mergeSort (fun x y => decide (x ≤ y)) = namesOf D := (mergeSort_of_perm hperm).trans hsr
      rcases hrow.2 with ⟨rfl, hnil⟩ | ⟨g, cap, cur, rfl, hbase, hb, h1, h2, h3, h4⟩
      · have hc := Tryz.slices_Sort_string_none none 0 wr
        go_wp2_with fail
        (with_reducible refine hc.mono ?_)
        rintro e w' ⟨rfl, rfl⟩
        go_wp2_with fail
        go_returns
        have hD0 : D.files = [] := List.eq_nil_of_length_eq_zero (by omega)
        refine ⟨_, rfl, ⟨by simp [namesOf, hD0], .inl ⟨rfl, by simp [hD0]⟩⟩, Chg.of_below hnx⟩
      · have hH : Holds encStr wr g 0 ss.toArray := holds_of_block hb (by simpa using h4)
        have hgl : g < wr.heap.size := (Array.getElem?_eq_some_iff.1 hb).1
        have hc := Tryz.slices_Sort_string g 0 cap ss wr hH hgl (by omega)
        rw [hms] at hc
        have HL := Lib.hid hlen
        clear hlen
        go_wp2_with fail
        (with_reducible refine hc.mono ?_)
        rintro e w' ⟨rfl, nn, os, rfl⟩
        go_wp2_with fail
        go_returns
        have hlen := HL.out
        have hrow' := ownsRow_sorted (w := wr) (n := nn) (os := os) (ss := ss) (ts := namesOf D) (by simp [hlen]) hbase hb h1 h2 h3
        rw [hlen] at hrow'
        exact ⟨_, rfl, by rw [hlen]; exact hrow', Chg.of_below (hnx.grown (grownBy_sorted _) hnx.size (fun j hj => by cases hj; exact hbase))⟩
    · intro x c kl yd yp w2 cnt2 hkey hlk hv hat hrg2 hlt hg2 hs2 hen
      obtain ⟨x', ex, rfl, _⟩ := Maps.keyOf_str Tryz.underlying9 hkey
      obtain rfl : x = x' := encStr_inj ex
      have hrow2 := hrow.kept hg2 (Or.inr (row_ne_iter hrow hrg).symm)
      clear hs2
      go_wp2_with (at_builtin; refine wpList_append_own _ rfl _ _ 27 rfl w.heap.size 9 i0 (.string ⟨#[]⟩) 1 16 Tryz.underlying27 hi hz0 hz1 hz2 rfl (by decide) _ _ _ rfl (hrow2.alloc _) ⟨w2.heap.size, 0, none⟩ 1 1 [encStr x] rfl rfl (cell_one_new _ _ _) (by simp [Value.oneCell', encStr]) (by unfold maxLen at *; omega) (by omega) (by have := hnx.size; have := hg2.size; simp; omega) ?_; intro v' w3 hown' hg3 hnil3; go_frame)
      have hrg3 := (hrg2.alloc _).kept hg3 (row_ne_low hrow2 hbl) (row_ne_iter hrow2 hrg2)
      go_roundw
      case rel =>
        refine ⟨_, cnt2, ss ++ [x], hrg3, by simp; omega, by simpa using hown', hC.step hlk hat, ?_⟩
        exact ((hnx.grown hg2 hnx.size (fun j hj => by cases hj; exact Nat.le_refl _)).alloc (by have := hnx.size; have := hg2.size; omega) _).grown hg3 (by have := hnx.size; have := hg2.size; simp; omega) (fun j hj => (hrow2.lt j hj).1)
      case measure => rw [hrg3.left_eq, hrg.left_eq]; exact hlt
end Go.Proofs.YtofnehgjkdcmnaaGreatDoor

/- The walk of a disk's Crash. -/
namespace Go.Proofs.YtofnehgjkdcmnaaGreatDoor
open Go.RowKit Hg

/-- the files when the first i of them are crashed -/
def part (keep i : Nat) (l : List (Nat × LFile)) : List (Nat × LFile) := crashed keep (l.take i) ++ l.drop i
theorem part_zero (keep : Nat) (l : List (Nat × LFile)) : part keep 0 l = l := rfl
theorem part_all (keep : Nat) (l : List (Nat × LFile)) : part keep l.length l = crashed keep l := by simp [part]
theorem part_fst (keep i : Nat) (l : List (Nat × LFile)) : (part keep i l).map (·.1) = l.map (·.1) := by
  unfold part crashed
  rw [List.map_append, List.map_map]
  show (l.take i).map (fun x => x.1) ++ _ = _
  rw [← List.map_append, List.take_append_drop]
theorem part_len (keep i : Nat) (l : List (Nat × LFile)) : (part keep i l).length = l.length := by
  have := congrArg List.length (part_fst keep i l); simpa using this
theorem ne_mid {a b : List (Nat × LFile)} {x : Nat × LFile} (h : Asc (a ++ x :: b)) : (∀ y ∈ a, y.1 ≠ x.1) ∧ ∀ y ∈ b, y.1 ≠ x.1 := by
  have h1 := h.lt
  rw [List.pairwise_append] at h1
  refine ⟨fun y hy e => ?_, fun y hy e => ?_⟩
  · have := h1.2.2 y hy x (by simp); omega
  · have := (List.pairwise_cons.1 h1.2.1).1 y hy; omega
theorem get_mid {a b : List (Nat × LFile)} {n : Nat} {f : LFile} (h : Asc (a ++ (n, f) :: b)) : lget (a ++ (n, f) :: b) n = some f := by
  unfold lget
  rw [List.find?_append]
  have : a.find? (fun x => x.1 == n) = none := by
    rw [List.find?_eq_none]; intro x hx; have := (ne_mid h).1 x hx; simpa using this
  rw [this]; simp
theorem set_mid {a b : List (Nat × LFile)} {n : Nat} {f : LFile} (h : Asc (a ++ (n, f) :: b)) (g : LFile) : lset (a ++ (n, f) :: b) n g = a ++ (n, g) :: b := by
  have key : ∀ l : List (Nat × LFile), (∀ y ∈ l, y.1 ≠ n) → l.map (fun x => if x.1 = n then (n, g) else x) = l := fun l hl => by
    conv => rhs; rw [← List.map_id l]
    apply List.map_congr_left; intro y hy; rw [if_neg (hl y hy)]; rfl
  unfold lset
  rw [List.map_append, List.map_cons, key a (ne_mid h).1, key b (ne_mid h).2]; simp
theorem part_mid {l : List (Nat × LFile)} {i : Nat} (keep : Nat) (hi : i < l.length) : part keep i l = crashed keep (l.take i) ++ (l[i].1, l[i].2) :: l.drop (i + 1) := by
  unfold part; rw [List.drop_eq_getElem_cons hi]
theorem part_get {l : List (Nat × LFile)} (h : Asc l) {i : Nat} (keep : Nat) (hi : i < l.length) : lget (part keep i l) l[i].1 = some l[i].2 := by
  have ha : Asc (part keep i l) := h.of_fst (part_fst keep i l)
  rw [part_mid keep hi] at ha ⊢
  exact get_mid ha
theorem part_succ {l : List (Nat × LFile)} (h : Asc l) {i : Nat} (keep : Nat) (hi : i < l.length) : lset (part keep i l) l[i].1 (l[i].2.crash keep) = part keep (i + 1) l := by
  have ha : Asc (part keep i l) := h.of_fst (part_fst keep i l)
  rw [part_mid keep hi] at ha ⊢
  rw [set_mid ha]
  unfold part crashed
  rw [List.take_succ_eq_append_getElem hi, List.map_append, List.append_assoc]; rfl

theorem wake_disk {w : World} {d M : Nat} {D : LD} (h : DiskAt w d M D) {u : Value} (hu : i64 ((4611686018427387904 : Nat) : Int) = u) : DiskAt ((w.setCell ⟨d, 1, none⟩ u).setCell ⟨d, 2, none⟩ (.bool false)) d M ⟨D.files, 4611686018427387904, false⟩ ∧ Chg [d, M] w ((w.setCell ⟨d, 1, none⟩ u).setCell ⟨d, 2, none⟩ (.bool false)) := by
  have hg : Chg [d] w ((w.setCell ⟨d, 1, none⟩ u).setCell ⟨d, 2, none⟩ (.bool false)) := ((Chg.refl [d] w).setCell (.inl (by simp)) u).setCell (.inl (by simp)) _
  have hM := disk_apart h
  refine ⟨⟨?_, map_chg h.map hg (by simpa using Ne.symm hM), h.asc, h.size, (by decide : 4611686018427387904 ≤ 9223372036854775807)⟩, hg.mono (by intro k _ hk; simp at hk ⊢; exact .inl hk)⟩
  have := (h.blk.set_ 1 u).set_ 2 (.bool false)
  rw [hu]; exact this
theorem look_plain {w : World} {d M : Nat} {D : LD} (h : DiskAt w d M D) (n : Nat) (hn : n < 100000000) {f : LFile} (hf : lget D.files n = some f) :
    (Instr.lookup 46 (.map (some M)) (strV (logName n)) false).run Tryz.prog w = .ok (fileV f) w := by
  obtain ⟨v, ps, hrun, hv⟩ := h.map.lookup disk_key Tryz.underlying46 (z := fileV ⟨[], 0⟩) (zd := fileD ⟨[], 0⟩) (zp := []) (Tryz.zeroValue85 w) rfl (key_of n)
  rw [at_get h.asc hn, hf] at hv
  rw [hrun, fileR_inv hv]
theorem crash_n {s l : Nat} {k : Int} (h : s ≤ l) (hl : l ≤ 4194304) : wrap64 ((s : Int) + max 0 (min k (wrap64 ((l : Int) - (s : Int))))) = ((s + min k.toNat (l - s) : Nat) : Int) := by
  have e1 : wrap64 ((l : Int) - (s : Int)) = ((l - s : Nat) : Int) := by unfold wrap64; omega
  rw [e1]; unfold wrap64; omega
theorem row_shape {w : World} {base : Nat} {v : Value} {n : Nat} {xs : List Value} (h : w.ownsRow base 9 1 v n xs) : ∃ p cap, v = .slice p n cap ∧ ∀ j, j < n → ∃ g, p = some ⟨g, 0, none⟩ ∧ base ≤ g ∧ g < w.heap.size ∧ w.cell? ⟨g, j, none⟩ = xs[j]? := by
  rcases h.2 with ⟨rfl, h0⟩ | ⟨g, cap, cur, rfl, hb, hg, _⟩
  · exact ⟨none, 0, by rw [h0], fun j hj => by omega⟩
  · exact ⟨some ⟨g, 0, none⟩, cap, rfl, fun j hj => ⟨g, rfl, hb, (Array.getElem?_eq_some_iff.1 hg).1, h.cellAt j (by omega)⟩⟩

set_option maxHeartbeats 1000000 in
set_option maxRecDepth 100000 in
theorem crash_any (d M : Nat) (kk : Int) (D : LD) (w : World) (h : DiskAt w d M D) (hl64 : D.files.length ≤ 1000) :
    Calls Tryz.prog 10 #[.pointer (some ⟨d, 0, none⟩), i64 kk] w fun e w' => e = .returned (.tuple #[]) ∧ DiskAt w' d M ⟨crashed kk.toNat D.files, 4611686018427387904, false⟩ ∧ Chg [d, M] w w' := by
  have hW := wake_disk h (u := i64 4611686018427387904) rfl
  have F1 := Lib.hid (files_any d M _ _ hW.1 hl64)
  have HW := Lib.hid hW
  have hdl : d < w.heap.size := (Array.getElem?_eq_some_iff.1 h.blk).1
  have hMl := h.map.lt
  have HL := Lib.hid (show d < w.heap.size ∧ M < w.heap.size from ⟨hdl, hMl⟩)
  have HA := Lib.hid h.asc
  have HS := Lib.hid h.size
  clear hW hdl hMl
  have f1 := h.blk.frozen 1
  have f2 := h.blk.frozen 2
  have c1 := h.blk.cell 1
  have c2 := h.blk.cell 2
  clear h
  go_enter Tryz.func10, Tryz.ntmps10
  go_wp2_with fail
  generalize hWW : (w.setCell { block := d, off := 1 } (i64 4611686018427387904)).setCell { block := d, off := 2 } (Value.bool false) = wa at F1 HW ⊢
  (with_reducible refine F1.out.mono ?_)
  rintro e w1 ⟨v, rfl, hrow, hg1⟩
  obtain ⟨p, cap, rfl, hat⟩ := row_shape hrow
  have hsz : w.heap.size ≤ wa.heap.size := HW.out.2.size
  have HD1 := Lib.hid (HW.out.1.new_ hg1)
  have HC1 : Hid (Chg [d, M] w w1) := HW.out.2.trans (hg1.mono (by simp))
  have HAT : Hid (∀ j (hj : j < D.files.length), ∃ g, p = some ⟨g, 0, none⟩ ∧ g < w1.heap.size ∧ w.heap.size ≤ g ∧ w1.cell? ⟨g, j, none⟩ = some (strV (logName D.files[j].1))) := fun j hj => by
    obtain ⟨g, h1, h2, h3, h4⟩ := hat j hj
    refine ⟨g, h1, h3, Nat.le_trans hsz h2, ?_⟩
    rw [h4]; simp [namesOf, hj, encStr]
  clear hat hrow hg1 hsz hWW F1 HW f1 f2 c1 c2
  go_wp2_with fail
  go_loopw [19] (fun i wr => ∃ k : Nat, k ≤ D.files.length ∧ i = i64 (k : Int) ∧ DiskAt wr d M ⟨part kk.toNat k D.files, 4611686018427387904, false⟩ ∧ Chg [d, M] w1 wr) (fun i _ => D.files.length - (intOf i).toNat)
  case atStart => exact ⟨0, Nat.zero_le _, rfl, HD1.out, Chg.refl _ _⟩
  case round =>
    obtain ⟨k, hk1, rfl, hP, hC⟩ := hrel
    by_cases hlt : k < D.files.length
    · obtain ⟨g, rfl, hg1, hg2, hg3⟩ := HAT.out k hlt
      have hLt : (k : Int) < (D.files.length : Int) := by omega
      have hgc : wr.cell? ⟨g, k, none⟩ = some (strV (logName D.files[k].1)) := by
        rw [hC.cell (p := ⟨g, k, none⟩) hg1 (by have := HL.out; simp; omega)]; exact hg3
      have hlk := look_plain hP D.files[k].1 (HA.out.small _ (List.getElem_mem hlt)) (part_get HA.out kk.toNat hlt)
      have c0 : wr.cell? ⟨d, 0, none⟩ = some (.map (some M)) := hP.blk.cell 0
      have HP := Lib.hid hP
      have HC := Lib.hid hC
      have HG := Lib.hid (And.intro hg1 hg2)
      clear hP hC hg1 hg2 hg3
      have hfl := HS.out _ (List.getElem_mem hlt)
      have HN := Lib.hid (crash_n (s := D.files[k].2.sure) (l := D.files[k].2.s.length) (k := kk) hfl.2 hfl.1)
      have HK := Lib.hid (HA.out.small _ (List.getElem_mem hlt))
      have HGET := Lib.hid (part_get HA.out kk.toNat hlt)
      have HSUC := Lib.hid (part_succ HA.out kk.toNat hlt)
      have hnl : D.files[k].2.sure + min kk.toNat (D.files[k].2.s.length - D.files[k].2.sure) ≤ D.files[k].2.s.length := by omega
      have HPL := Lib.hid (part_len kk.toNat k D.files)
      clear hfl
      have hkk : k + 1 ≤ D.files.length := hlt
      clear HAT
      generalize D.files[k].1 = n at hgc hlk HK HGET HSUC ⊢
      generalize D.files[k].2 = f at hlk HN HGET HSUC hnl ⊢
      clear hlt
      go_wp2_with fail
      rw [HN.out]
      have hq : f.crash kk.toNat = ⟨f.s.take (f.sure + min kk.toNat (f.s.length - f.sure)), f.sure + min kk.toNat (f.s.length - f.sure)⟩ := rfl
      generalize f.sure + min kk.toNat (f.s.length - f.sure) = q at *
      have hA := (Chg.refl [] wr).alloc (.cells #[strV f.s, i64 (f.sure : Int)] 85)
      have hD2 := HP.out.new_ hA
      have hB := Blk.new wr 85 #[strV f.s, i64 (f.sure : Int)]
      have hC2 : Chg [d, M] w1 (wr.alloc (.cells #[strV f.s, i64 (f.sure : Int)] 85)) := HC.out.trans (hA.mono (by simp))
      clear hA
      obtain ⟨F, hF⟩ : ∃ F, wr.heap.size = F := ⟨_, rfl⟩
      rw [hF] at hB
      simp only [hF]
      clear hF hgc hlk c0 HP HC
      change Code.wp _ _ _ _ (wr.alloc (.cells #[strV f.s, i64 (f.sure : Int)] 85))
      generalize wr.alloc (.cells #[strV f.s, i64 (f.sure : Int)] 85) = ws at hD2 hB hC2 ⊢
      have c0 : ws.cell? ⟨d, 0, none⟩ = some (.map (some M)) := hD2.blk.cell 0
      have b0 : ws.cell? ⟨F, 0, none⟩ = some (strV f.s) := hB.cell 0
      have hq2 : (q : Int) ≤ (f.s.length : Int) := by omega
      have hq0 : (0 : Int) ≤ (q : Int) := by omega
      have HD2 := Lib.hid hD2
      have HC2 := Lib.hid hC2
      clear hD2 hB hC2 HN
      refine wp_region_still_tail 11 (by kernel_rfl) (by kernel_rfl) ?_
      simp only [List.take_succ_cons, List.take_zero, List.drop_succ_cons, List.drop_zero]
      repeat (with_reducible refine wpStill_step ?_; intro K hK; go_simp; with_reducible refine hK _ ?_; clear hK K)
      with_reducible refine wpStill_nil ?_
      change wpList _ _ _ _ _ ws.drew
      clear c0 b0
      have HD3 := Lib.hid (HD2.out.new_ (Chg.refl [] ws).drew)
      have HC3 : Hid (Chg [d, M] w1 ws.drew) := HC2.out.drew
      clear HD2 HC2
      generalize ws.drew = w2 at HD3 HC3 ⊢
      rw [ext_n]
      have hown := HD3.out.map
      dsimp only at hown
      rw [HPL.out] at hown
      have HO := Lib.hid hown
      clear hown
      go_wp2_with (at_mapUpdate; refine wpList_mapUpdate_own _ rfl _ _ _ 46 rfl 9 85 disk_key Tryz.underlying46 fileR M D.files.length (mapD (part kk.toNat k D.files)) rfl HO.out (by unfold maxLen; omega) (strV (logName n)) (fileV ⟨f.s.take q, q⟩) (keyL n) rfl rfl (key_of n) (fileD ⟨f.s.take q, q⟩) [] (fileR_mk _) ?_)
      intro w3 hown3 hgrow3
      have hN := stored_at HD3.out HK.out HGET.out (f := ⟨f.s.take q, q⟩) (by have := hnl; dsimp only; rw [List.length_take]; have := (HD3.out.size _ (get_mem HGET.out)).1; dsimp only at this; omega) hown3 hgrow3
      have HF : Hid (DiskAt w3 d M ⟨part kk.toNat (k + 1) D.files, 4611686018427387904, false⟩ ∧ Chg [d, M] w1 w3) := ⟨by have := hN.1; unfold stored at this; rw [← hq] at this; dsimp only at this; rw [HSUC.out] at this; exact this, HC3.out.trans hN.2⟩
      clear hN hown3 hgrow3 HD3 HC3 HO
      have e1 : wrap64 ((k : Int) + 1) = (k : Int) + 1 := by unfold wrap64; omega
      clear hnl hq hq2 hq0
      go_wp2_with fail
      go_roundw
      case rel => exact ⟨k + 1, hkk, by rfl, HF.out.1, HF.out.2⟩
      case measure => simp [intOf]; omega
    · have hLt : ¬ ((k : Int) < (D.files.length : Int)) := by omega
      obtain rfl : k = D.files.length := by omega
      rw [part_all] at hP
      have HP := Lib.hid hP
      have HC := Lib.hid hC
      clear hP hC HAT
      go_wp2_with fail
      refine bodyPost_end (results_none rfl _ _ _) rfl ?_
      exact ⟨rfl, HP.out, HC1.out.trans HC.out⟩
end Go.Proofs.YtofnehgjkdcmnaaGreatDoor
