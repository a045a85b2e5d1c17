/- The walk of First. -/
import Derived.Test.YtofnehgjkdcmnaaGreatDoorGLgFrame
import Derived.Test.YtofnehgjkdcmnaaGreatDoorGHead
import Derived.Deep.RegionHeld3
import Derived.Deep.DrawnRows
namespace Go.Proofs.YtofnehgjkdcmnaaGreatDoor
open Go.RowKit Hg

theorem wrap_small (n : Int) (h : 0 ≤ n) (h2 : n < 9223372036854775808) : IntKind.i64.wrap n = n := by rw [IntKind.wrap_i64]; omega
theorem or3 (a b c : Nat) (ha : a < 256) (hb : b < 256) (hc : c < 256) : bits .or .i64 (bits .or .i64 (IntKind.i64.wrap (IntKind.i64.wrap (a : Int) * 65536)) (IntKind.i64.wrap (IntKind.i64.wrap (b : Int) * 256))) (IntKind.i64.wrap (c : Int)) = ((a * 65536 + b * 256 + c : Nat) : Int) := by
  rw [wrap_small a (by omega) (by omega), wrap_small b (by omega) (by omega), wrap_small c (by omega) (by omega), wrap_small _ (by omega) (by omega), wrap_small _ (by omega) (by omega)]
  have e1 : (a : Int) * 65536 = ((a * 65536 : Nat) : Int) := by omega
  have e2 : (b : Int) * 256 = ((b * 256 : Nat) : Int) := by omega
  rw [e1, e2, or_i64 _ _ (by omega) (by omega)]
  have e3 : a * 65536 ||| b * 256 = (a * 256 + b) * 256 := by
    have h := shl_or a b hb
    have : (a * 256 ||| b) * 256 = a * 65536 ||| b * 256 := by
      rw [show a * 65536 = (a * 256) <<< 8 by rw [Nat.shiftLeft_eq]; omega, show b * 256 = b <<< 8 by rw [Nat.shiftLeft_eq], ← Nat.shiftLeft_or_distrib, Nat.shiftLeft_eq]
    rw [← this, h]
  rw [e3, or_i64 _ _ (by omega) (by omega), shl_or _ _ hc]
  omega
theorem ext_drop3 (l : Bytes) (a b : Nat) : (ByteArray.mk l.toArray).extract a b = ⟨((l.drop a).take (b - a)).toArray⟩ := by
  apply ByteArray.ext
  apply Array.ext'
  rw [Lib.extract_data]
theorem ext_tail (l : Bytes) (a : Nat) : (ByteArray.mk l.toArray).extract a l.length = ⟨(l.drop a).toArray⟩ := by
  rw [ext_drop3, List.take_of_length_le (by simp)]
set_option maxHeartbeats 1000000 in
set_option maxRecDepth 100000 in
/-- fewer than three bytes are left -/
theorem first_short (s : Bytes) (a : Nat) (w : World) (ha : a ≤ s.length) (hs : s.length ≤ 4194304) (hl : s.length - a < 3) :
    Calls Tryz.prog 57 #[strV s, i64 (a : Int)] w fun e w' => e = .returned (.tuple #[strV [], i64 0, i64 4]) ∧ Chg [] w w' := by
  have h1 : ¬ ((s.length : Int) < (a : Int)) := by omega
  have h0 : ¬ ((a : Int) < 0) := by omega
  have h3 : (a : Int) ≤ (s.length : Int) := by omega
  have hX := ext_tail s a
  have hdl : ((s.drop a).length : Int) < 3 := by rw [List.length_drop]; omega
  go_enter Tryz.func57, Tryz.ntmps57
  go_wp2_with fail
  go_returns
  exact ⟨rfl, Chg.refl _ _⟩

/-- what First answers, of what parse1 finds -/
def FirstP (T : Nat → Nat) (s : Bytes) (a : Nat) (w : World) (e : Ending) (w' : World) : Prop :=
  (match parse1 (tlT T) (s.drop a) with
    | some (t, n) => e = .returned (.tuple #[strV t, i64 ((a + n : Nat) : Int), i64 0])
    | none => ∃ c : Int, (c == 0) = false ∧ e = .returned (.tuple #[strV [], i64 0, i64 c])) ∧ Chg [] w w'
theorem parse_short {tl : Byts → Byts} {r : Byts} (h : r.length < 3) : parse1 tl r = none := by
  match r, h with
  | [], _ => rfl
  | [_], _ => rfl
  | [_, _], _ => rfl
theorem three (r : Byts) (h : 2 < r.length) : ∃ a b c q, r = a :: b :: c :: q := by
  match r, h with
  | a :: b :: c :: q, _ => exact ⟨a, b, c, q, rfl⟩
theorem parse_big {tl : Byts → Byts} {r : Byts} {m : Nat} (n0 : 0 < r.length) (n1 : 1 < r.length) (n2 : 2 < r.length) (hm : num3 r[0] r[1] r[2] = m) (h : 65536 < m) : parse1 tl r = none := by
  obtain ⟨a, b, c, q, rfl⟩ := three r n2
  simp only [List.getElem_cons_zero, List.getElem_cons_succ] at hm
  unfold parse1
  simp only [hm]
  rw [if_pos h]
theorem parse_end {tl : Byts → Byts} {r : Byts} {m : Nat} (n0 : 0 < r.length) (n1 : 1 < r.length) (n2 : 2 < r.length) (hm : num3 r[0] r[1] r[2] = m) (h : r.length < 7 + m) : parse1 tl r = none := by
  obtain ⟨a, b, c, q, rfl⟩ := three r n2
  simp only [List.getElem_cons_zero, List.getElem_cons_succ, List.length_cons] at hm h
  unfold parse1
  simp only [hm]
  split
  · rfl
  · rw [if_pos (by omega)]
theorem parse_sum {tl : Byts → Byts} {r : Byts} {m : Nat} (n0 : 0 < r.length) (n1 : 1 < r.length) (n2 : 2 < r.length) (hm : num3 r[0] r[1] r[2] = m) (h1 : m ≤ 65536) (h2 : 7 + m ≤ r.length) :
    parse1 tl r = if tl (r.take (3 + m)) = (r.drop (3 + m)).take 4 then some ((r.drop 3).take m, 7 + m) else none := by
  obtain ⟨a, b, c, q, rfl⟩ := three r n2
  simp only [List.getElem_cons_zero, List.getElem_cons_succ, List.length_cons] at hm h2
  unfold parse1
  simp only [hm]
  rw [if_neg (by omega), if_neg (by omega)]
  have e1 : (a :: b :: c :: q).take (3 + m) = a :: b :: c :: q.take m := by rw [Nat.add_comm]; rfl
  have e2 : (a :: b :: c :: q).drop (3 + m) = q.drop m := by rw [Nat.add_comm]; rfl
  rw [e1, e2]; rfl

set_option maxHeartbeats 1000000 in
set_option maxRecDepth 100000 in
/-- three bytes at the least are left -/
theorem first_long (s r : Bytes) (a : Nat) (w : World) (T : Nat → Nat) (hT : ∀ i, i < 16 → T i < 4294967296) (hN : ∀ i, i < 16 → w.cell? ⟨0, i, none⟩ = some (.int .u32 (T i : Int))) (hw0 : 0 < w.heap.size)
    (ha : a ≤ s.length) (hs : s.length ≤ 4194304) (hl : s.drop a = r) (hr : 3 ≤ r.length) :
    Calls Tryz.prog 57 #[strV s, i64 (a : Int)] w (FirstP T s a w) := by
  have h1 : ¬ ((s.length : Int) < (a : Int)) := by omega
  have h0 : ¬ ((a : Int) < 0) := by omega
  have h3 : (a : Int) ≤ (s.length : Int) := by omega
  have hX := ext_tail s a
  have hd : s.length - a = r.length := by rw [← List.length_drop, hl]
  have HP : Hid (∀ e w', FirstP T s a w e w' = ((match parse1 (tlT T) r with
    | some (t, n) => e = .returned (.tuple #[strV t, i64 ((a + n : Nat) : Int), i64 0])
    | none => ∃ c : Int, (c == 0) = false ∧ e = .returned (.tuple #[strV [], i64 0, i64 c])) ∧ Chg [] w w')) := fun e w' => by unfold FirstP; rw [hl]
  rw [hl] at hX
  clear hl
  have g0 : (0 : Int) < (r.length : Int) := by omega
  have g1 : (1 : Int) < (r.length : Int) := by omega
  have g2 : (2 : Int) < (r.length : Int) := by omega
  have g3 : ¬ ((r.length : Int) < 3) := by omega
  have n0 : 0 < r.length := by omega
  have n1 : 1 < r.length := by omega
  have n2 : 2 < r.length := by omega
  have HT := Lib.hid hT
  have HN := Lib.hid hN
  have HW0 := Lib.hid hw0
  clear hT hN hw0
  go_enter Tryz.func57, Tryz.ntmps57
  go_wp2_with fail
  refine wp_region_still_tail 13 (by kernel_rfl) (by kernel_rfl) ?_
  simp only [List.take_succ_cons, List.take_zero, List.drop_succ_cons, List.drop_zero]
  repeat (with_reducible refine wpStill_step ?_; intro K hK; go_simp; with_reducible refine hK _ ?_; clear hK K)
  with_reducible refine wpStill_nil ?_
  change wpList _ _ _ _ _ w.drew
  have HC1 : Hid (Chg [] w w.drew) := (Chg.refl [] w).drew
  generalize w.drew = w1 at HC1 ⊢
  rw [or3 _ _ _ (UInt8.toNat_lt _) (UInt8.toNat_lt _) (UInt8.toNat_lt _)]
  obtain ⟨m, hm⟩ : ∃ m, num3 r[0] r[1] r[2] = m := ⟨_, rfl⟩
  have b0 : 0 < (ByteArray.mk r.toArray).size := by show 0 < r.toArray.size; simpa using n0
  have b1 : 1 < (ByteArray.mk r.toArray).size := by show 1 < r.toArray.size; simpa using n1
  have b2 : 2 < (ByteArray.mk r.toArray).size := by show 2 < r.toArray.size; simpa using n2
  have hm2 : (ByteArray.mk r.toArray)[0].toNat * 65536 + (ByteArray.mk r.toArray)[1].toNat * 256 + (ByteArray.mk r.toArray)[2].toNat = m := hm
  rw [hm2]
  clear hm2 b0 b1 b2
  rcases Nat.lt_or_ge 65536 m with hb | hb
  · have hbi : (65536 : Int) < (m : Int) := by omega
    have HR := Lib.hid (parse_big (tl := tlT T) n0 n1 n2 hm hb)
    clear hm hb hX
    go_wp2_with fail
    go_returns
    rw [HP.out, HR.out]
    exact ⟨⟨2, rfl, rfl⟩, HC1.out⟩
  · have hbi : ¬ ((65536 : Int) < (m : Int)) := by omega
    rcases Nat.lt_or_ge r.length (7 + m) with hq | hq
    · have hqi : (r.length : Int) < 7 + (m : Int) := by omega
      have HR := Lib.hid (parse_end (tl := tlT T) n0 n1 n2 hm hq)
      clear hm hq hX
      go_wp2_with fail
      go_returns
      rw [HP.out, HR.out]
      exact ⟨⟨4, rfl, rfl⟩, HC1.out⟩
    · have hqi : ¬ ((r.length : Int) < 7 + (m : Int)) := by omega
      have HR := Lib.hid (parse_sum (tl := tlT T) n0 n1 n2 hm hb hq)
      clear hm hX
      go_wp2_with fail
      obtain ⟨k, hk⟩ : ∃ k, k = 3 + m := ⟨_, rfl⟩
      rw [← hk] at HR
      have hk7 : 7 + m = k + 4 := by omega
      have E1 : IntKind.i64.wrap (3 + (m : Int)) = (k : Int) := by rw [wrap_small _ (by omega) (by omega)]; omega
      obtain ⟨k4, hk4⟩ : ∃ k4, k4 = k + 4 := ⟨_, rfl⟩
      have E2 : IntKind.i64.wrap (7 + (m : Int)) = (k4 : Int) := by rw [wrap_small _ (by omega) (by omega)]; omega
      have X1 : (ByteArray.mk r.toArray).extract 0 k = ⟨(r.take k).toArray⟩ := by rw [ext_drop3]; simp
      have X2 : (ByteArray.mk r.toArray).extract k k4 = ⟨((r.drop k).take 4).toArray⟩ := by rw [ext_drop3, hk4]; simp
      have k1 : (k : Int) ≤ (r.length : Int) := by omega
      have k2 : (k4 : Int) ≤ (r.length : Int) := by omega
      have k0 : (0 : Int) ≤ (k : Int) := by omega
      have k3 : (k : Int) ≤ (k4 : Int) := by omega
      have SUM : Hid (∀ W B, Chg [] w W → W.cell? ⟨B, 0, none⟩ = some (strV (r.take k)) → Calls Tryz.prog 99 #[.slice (some ⟨B, 0, none⟩) 1 1] W fun e w' => e = .returned (.int .u32 ((4294967295 - crcF T 4294967295 (r.take k) : Nat) : Int)) ∧ Chg [] W w') := fun W B hW hB => by
        have := sum_any B 1 [r.take k] W (fun j hj => by
          have hj2 : j < 1 := hj
          obtain rfl : j = 0 := by omega
          exact hB) (by show 1 ≤ 1000; omega) (by intro x hx; simp only [List.mem_singleton] at hx; rw [hx, List.length_take]; omega) T HT.out (fun i hi => by rw [hW.cell (p := ⟨0, i, none⟩) HW0.out (by simp)]; exact HN.out i hi) (Nat.lt_of_lt_of_le HW0.out hW.size)
        simpa using this
      have hlt : 4294967295 - crcF T 4294967295 (r.take k) < 4294967296 := by omega
      have HTL := Lib.hid (fun w => frTail_any (4294967295 - crcF T 4294967295 (r.take k)) w hlt)
      have HE : Hid (tl4 (4294967295 - crcF T 4294967295 (r.take k)) = tlT T (r.take k)) := rfl
      clear hlt
      generalize 4294967295 - crcF T 4294967295 (r.take k) = c at SUM HTL HE
      have HK := Lib.hid hk
      have HK4 := Lib.hid hk4
      clear hk hk4 hk7
      have D1 : Hid (Chg [] w w1.drew) := HC1.out.drew
      go_region_held3 (fun _ => True) (trivial)
        (first
          | (go_at_call 99; refine (SUM.out _ w1.heap.size (by first | exact (D1.out.alloc _) | exact (HC1.out.alloc _).drew) (by simp)).mono ?_; rintro e w2 ⟨rfl, hg2⟩; have HG2 := Lib.hid hg2; clear hg2)
          | (go_at_call 98; (with_reducible refine (HTL.out _).mono ?_); rintro e w3 ⟨rfl, hg3⟩; have HG3 := Lib.hid hg3; clear hg3))
      clear E1 E2 X1 X2
      have HW : Hid (Chg [] w w3) := (((by first | exact (D1.out.alloc _) | exact (HC1.out.alloc _).drew : Chg [] w _).trans HG2.out).trans HG3.out)
      by_cases he : tlT T (r.take k) = (r.drop k).take 4
      · have HR2 : Hid (parse1 (tlT T) r = some ((r.drop 3).take m, 7 + m)) := HR.out.trans (if_pos he)
        rw [HE.out]
        have hb2 : (!tlT T (r.take k) == (r.drop k).take 4) = false := by rw [he]; simp
        have X3 : (ByteArray.mk r.toArray).extract 3 k = ⟨(((r.drop 3).take m)).toArray⟩ := by rw [ext_drop3, HK.out]; congr 3; omega
        have k5 : (3 : Int) ≤ (k : Int) := by have := HK.out; omega
        have E1 : (3 : Int) + (m : Int) = (k : Int) := by have := HK.out; omega
        clear he HR HE HTL SUM HG2 HG3
        go_wp2_with fail
        · rename_i hx; rw [hb2] at hx; cases hx
        · go_returns
          rw [HP.out, HR2.out]
          refine ⟨?_, HW.out⟩
          have e9 : (a : Int) + 7 + (m : Int) = ((a + (7 + m) : Nat) : Int) := by omega
          exact congrArg (fun v => Ending.returned (.tuple #[strV ((r.drop 3).take m), i64 v, i64 0])) e9
      · have HR2 : Hid (parse1 (tlT T) r = none) := HR.out.trans (if_neg he)
        rw [HE.out]
        have hb2 : (!tlT T (r.take k) == (r.drop k).take 4) = true := by simpa using he
        have X3 : (ByteArray.mk r.toArray).extract 3 k = ⟨(((r.drop 3).take m)).toArray⟩ := by rw [ext_drop3, HK.out]; congr 3; omega
        have k5 : (3 : Int) ≤ (k : Int) := by have := HK.out; omega
        have E1 : (3 : Int) + (m : Int) = (k : Int) := by have := HK.out; omega
        clear he HR HE HTL SUM HG2 HG3
        go_wp2_with fail
        · go_returns
          rw [HP.out, HR2.out]
          exact ⟨⟨3, rfl, rfl⟩, HW.out⟩
        · rename_i hx; rw [hb2] at hx; cases hx
theorem first_any (s : Bytes) (a : Nat) (w : World) (T : Nat → Nat) (hT : ∀ i, i < 16 → T i < 4294967296) (hN : ∀ i, i < 16 → w.cell? ⟨0, i, none⟩ = some (.int .u32 (T i : Int))) (hw0 : 0 < w.heap.size)
    (ha : a ≤ s.length) (hs : s.length ≤ 4194304) :
    Calls Tryz.prog 57 #[strV s, i64 (a : Int)] w (FirstP T s a w) := by
  rcases Nat.lt_or_ge (s.drop a).length 3 with h | h
  · refine (first_short s a w ha hs (by rw [← List.length_drop]; exact h)).mono fun e w' hq => ?_
    unfold FirstP
    rw [parse_short h]
    exact ⟨⟨4, rfl, hq.1⟩, hq.2⟩
  · exact first_long s _ a w T hT hN hw0 ha hs rfl h
end Go.Proofs.YtofnehgjkdcmnaaGreatDoor
