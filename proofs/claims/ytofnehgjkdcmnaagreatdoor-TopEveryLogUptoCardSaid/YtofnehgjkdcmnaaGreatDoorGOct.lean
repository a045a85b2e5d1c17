/- The walks of octet.lay, octet.Int, octet.Text. -/
import Derived.Test.YtofnehgjkdcmnaaGreatDoorGShelf
import Derived.Test.YtofnehgjkdcmnaaGreatDoorGPl
import Derived.Test.YtofnehgjkdcmnaaGreatDoorGMem
import Derived.WalkKit
import Derived.WalkLawsBesides
import Derived.WalkSpells
namespace Go.Proofs.YtofnehgjkdcmnaaGreatDoor
open Go.RowKit Hg

theorem infoByte : (Tryz.prog.info? 5).map (fun i => (i.zero, i.size, i.bytes)) = some (some (.int .u8 0), 1, 1) := by kernel_rfl

/-- a number that an int holds -/
def I64 (x : Int) : Prop := -9223372036854775808 ≤ x ∧ x ≤ 9223372036854775807

/-- what laying leaves -/
def Laid (base : Nat) (w : World) (l : List Value) (e : Ending) (w' : World) : Prop :=
  ∃ v', e = .returned v' ∧ w'.ownsRow base 5 1 v' l.length l ∧ Below base w w'

theorem xor_neg {x : Int} (h : I64 x) (hx : x < 0) : bits BinOp.xor IntKind.i64 (-1) x = (mag x : Int) := by
  obtain ⟨h1, h2⟩ := h
  have hm : (mag x : Int) = -x - 1 := by unfold mag; rw [if_pos hx]; omega
  rw [hm]
  show IntKind.i64.wrap ((BitVec.ofInt 64 (-1) ^^^ BitVec.ofInt 64 x).toNat : Int) = _
  have e : BitVec.ofInt 64 (-1) ^^^ BitVec.ofInt 64 x = ~~~ BitVec.ofInt 64 x := by
    rw [show BitVec.ofInt 64 (-1) = BitVec.allOnes 64 by decide, BitVec.allOnes_xor]
  rw [e, BitVec.toNat_not, BitVec.toNat_ofInt, IntKind.wrap_i64]
  omega

theorem u64_nat {m : Nat} (h : m < 9223372036854775808) : IntKind.u64.wrap (m : Int) = (m : Int) := by
  simp [IntKind.wrap, IntKind.bits, IntKind.signed]; omega
theorem mag_lt {x : Int} (h : I64 x) : mag x < 9223372036854775808 := by
  obtain ⟨h1, h2⟩ := h; unfold mag; split <;> omega

theorem bitLen_nby : ∀ (m : Nat), m < 9223372036854775808 → (Lib.bitLen m + 7) / 8 = nby m := by
  intro m
  induction m using Nat.strongRecOn with
  | ind m ih =>
    intro h
    by_cases h0 : m = 0
    · subst h0; rw [nby_zero]; decide
    · rw [nby_pos (by omega)]
      by_cases h1 : m < 256
      · have e : m / 256 = 0 := by omega
        rw [e, nby_zero]
        have h8 := Lib.bitLen_le m 8 (by omega) h1
        have hp : 1 ≤ Lib.bitLen m := by
          have := Lib.bitLen_half m h0 (by omega)
          omega
        omega
      · rw [Lib.bitLen_shift8 m (by omega) (by omega), ← ih (m / 256) (by omega) (by omega)]
        omega

theorem byteV_be_take {k m j : Nat} (hj : j ≤ k) (h0 : 1 ≤ j) :
    byteV ((be k m).take (k - j + 1)) = byteV ((be k m).take (k - j)) ++ [.int .u8 ((m : Int) / 2 ^ (8 * (j - 1)) % 256)] := by
  have hg : ∀ (k i : Nat), i < k → (be k m)[i]? = some (UInt8.ofNat (m / 256 ^ (k - 1 - i))) := by
    intro k
    induction k with
    | zero => intro i h; omega
    | succ k ih =>
      intro i h
      cases i with
      | zero => simp [be]
      | succ i =>
        simp only [be, List.getElem?_cons_succ]
        rw [ih i (by omega)]
        congr 4
        omega
  rw [List.take_add_one, hg k (k - j) (by omega)]
  unfold byteV
  rw [List.map_append]
  congr 1
  have e : k - 1 - (k - j) = j - 1 := by omega
  rw [e]
  simp only [Option.toList, List.map_cons, List.map_nil, UInt8.toNat_ofNat', Nat.reducePow]
  rw [show (256 : Nat) ^ (j - 1) = 2 ^ (8 * (j - 1)) by rw [Nat.pow_mul]]
  simp

theorem len_own {w : World} {base nb : Nat} {e : TypeId} {v : Value} {xs : List Value} (h : w.ownsRow base e 1 v nb xs) : xs.length = nb := by simpa using h.1

set_option maxHeartbeats 800000 in
set_option maxRecDepth 100000 in
theorem lay_any (base : Nat) (v : Value) (nb : Nat) (xs : List Value) (x : Int) (w : World) (hown : w.ownsRow base 5 1 v nb xs)
    (h1 : I64 x) (hn : nb ≤ 1099511627776) (hb : base ≤ w.heap.size) :
    Calls Tryz.prog 66 #[v, .int .i64 x] w (Laid base w (xs ++ byteV (oct x))) := by
  obtain ⟨i0, hi, hz0, hz1, hz2⟩ := info_parts infoByte
  have hn2 := Lib.hid hn
  clear hn
  by_cases hx : x < 0
  · have hbx := xor_neg h1 hx
    have hml := mag_lt h1
    have hfin : Hid (oct x = UInt8.ofNat (128 + nby (mag x)) :: be (nby (mag x)) (mag x)) := by unfold oct sgn; rw [if_pos hx]; exact rfl
    generalize mag x = m at hbx hml hfin
    have hu := u64_nat hml
    have hk : ((Lib.bitLen m : Int) + 7) / 8 = (nby m : Int) := by rw [← bitLen_nby m hml]; omega
    have hk8 : nby m ≤ 8 := nby_le (by omega)
    have hbl : Lib.bitLen m ≤ 63 := Lib.bitLen_le m 63 (by omega) (by omega)
    have hml2 := Lib.hid hml
    clear hml
    go_enter Tryz.func66, Tryz.ntmps66
    go_wp2_with fail
    refine (Tryz.bits_Len64 _ _ (by omega) (by have := hml2.out; omega)).mono ?_
    rintro e w' ⟨rfl, rfl⟩
    go_wp2_with (at_builtin; refine wpList_append_own _ rfl (.tmp 17) (.tmp 22) 99 rfl base 5 i0 _ 1 1 Tryz.underlying99 hi hz0 hz1 hz2 rfl (by decide) _ _ _ rfl (hown.alloc _) ⟨w'.heap.size, 0, none⟩ 1 1 [.int .u8 (128 + (nby m : Int))] rfl rfl ?c1 ?c2 ?c3 ?c4 ?c5 ?c6)
    case c1 => exact cell_one_new _ _ _
    case c2 => simp [Value.oneCell']
    case c3 => have := hn2.out; unfold maxLen; omega
    case c4 => have := hn2.out; omega
    case c5 => simp; omega
    case c6 =>
      intro v1 w1 hown1 hg1 _
      have hb1 : Below base w' w1 := ((Below.refl _ _).alloc hb _).grown hg1 (by simp; omega) (fun k h => (hown.lt k h).1)
      clear hown hg1 hk
      go_wp2_with fail
      go_loopw [0, 7] (fun b i wr => ∃ j : Nat, j ≤ nby m ∧ i = .int .i64 ((j : Int) - 1) ∧ wr.ownsRow base 5 1 b (nb + 1 + (nby m - j)) (xs ++ [.int .u8 (128 + (nby m : Int))] ++ byteV ((be (nby m) m).take (nby m - j))) ∧ Below base w' wr)
        (fun _ i _ => (intOf i + 1).toNat)
      case atStart => exact ⟨nby m, Nat.le_refl _, rfl, by simpa [byteV] using hown1, hb1⟩
      case round =>
        obtain ⟨j, hj, rfl, hown2, hb2⟩ := hrel
        clear hown1 hb1
        by_cases hj0 : 1 ≤ j
        · go_wp2_with (at_builtin; refine wpList_append_own _ rfl (.tmp 30) (.tmp 36) 99 rfl base 5 i0 _ 1 1 Tryz.underlying99 hi hz0 hz1 hz2 rfl (by decide) _ _ _ rfl (hown2.alloc _) ⟨wr.heap.size, 0, none⟩ 1 1 [.int .u8 ((m : Int) / 2 ^ (8 * (j - 1)) % 256)] rfl rfl ?d1 ?d2 ?d3 ?d4 ?d5 ?d6)
          case d1 => exact cell_one_new _ _ _
          case d2 => simp [Value.oneCell']
          case d3 => have := hn2.out; unfold maxLen; omega
          case d4 => have := hn2.out; omega
          case d5 => have := hb2.size; simp; omega
          case d6 =>
            intro v3 w3 hown3 hg3 _
            have hb3 : Below base w' w3 := (hb2.alloc (by have := hb2.size; omega) _).grown hg3 (by have := hb2.size; simp; omega) (fun k h => (hown2.lt k h).1)
            have hnext : w3.ownsRow base 5 1 v3 (nb + 1 + (nby m - (j - 1))) (xs ++ [.int .u8 (128 + (nby m : Int))] ++ byteV ((be (nby m) m).take (nby m - (j - 1)))) := by
              rw [show nby m - (j - 1) = nby m - j + 1 by omega, byteV_be_take hj hj0]
              simpa [Nat.add_assoc] using hown3
            clear hown2 hg3 hown3
            go_wp2_with fail
            go_roundw
            case rel => exact ⟨j - 1, by omega, by congr 1; omega, hnext, hb3⟩
            case measure => simp [intOf]; omega
        · have hj00 : j = 0 := by omega
          subst hj00
          go_wp2_with fail
          go_ret
          refine ⟨_, rfl, ?_, hb2⟩
          rw [hfin.out]
          have e2 : (be (nby m) m).take (nby m - 0) = be (nby m) m := List.take_of_length_le (by rw [be_length]; omega)
          rw [e2] at hown2
          have e3 : (xs ++ byteV (UInt8.ofNat (128 + nby m) :: be (nby m) m)).length = nb + 1 + (nby m - 0) := by
            have := hown2.1
            simp [byteV, be_length] at this ⊢
            omega
          rw [e3]
          simpa [byteV, show (128 + (nby m : Int)) % 256 = 128 + (nby m : Int) by omega] using hown2
  · have hml := mag_lt h1
    have hfin : Hid (oct x = UInt8.ofNat (nby (mag x)) :: be (nby (mag x)) (mag x)) := by unfold oct sgn; rw [if_neg hx, Nat.zero_add]; exact rfl
    have hxm : x = (mag x : Int) := by unfold mag; rw [if_neg hx]; omega
    generalize mag x = m at hxm hml hfin
    subst hxm
    have hu := u64_nat hml
    have hk : ((Lib.bitLen m : Int) + 7) / 8 = (nby m : Int) := by rw [← bitLen_nby m hml]; omega
    have hk8 : nby m ≤ 8 := nby_le (by omega)
    have hbl : Lib.bitLen m ≤ 63 := Lib.bitLen_le m 63 (by omega) (by omega)
    have hml2 := Lib.hid hml
    clear hml
    go_enter Tryz.func66, Tryz.ntmps66
    go_wp2_with fail
    refine (Tryz.bits_Len64 _ _ (by omega) (by have := hml2.out; omega)).mono ?_
    rintro e w' ⟨rfl, rfl⟩
    go_wp2_with (at_builtin; refine wpList_append_own _ rfl (.tmp 17) (.tmp 22) 99 rfl base 5 i0 _ 1 1 Tryz.underlying99 hi hz0 hz1 hz2 rfl (by decide) _ _ _ rfl (hown.alloc _) ⟨w'.heap.size, 0, none⟩ 1 1 [.int .u8 ((nby m : Int))] rfl rfl ?c1 ?c2 ?c3 ?c4 ?c5 ?c6)
    case c1 => exact cell_one_new _ _ _
    case c2 => simp [Value.oneCell']
    case c3 => have := hn2.out; unfold maxLen; omega
    case c4 => have := hn2.out; omega
    case c5 => simp; omega
    case c6 =>
      intro v1 w1 hown1 hg1 _
      have hb1 : Below base w' w1 := ((Below.refl _ _).alloc hb _).grown hg1 (by simp; omega) (fun k h => (hown.lt k h).1)
      clear hown hg1 hk
      go_wp2_with fail
      go_loopw [0, 7] (fun b i wr => ∃ j : Nat, j ≤ nby m ∧ i = .int .i64 ((j : Int) - 1) ∧ wr.ownsRow base 5 1 b (nb + 1 + (nby m - j)) (xs ++ [.int .u8 ((nby m : Int))] ++ byteV ((be (nby m) m).take (nby m - j))) ∧ Below base w' wr)
        (fun _ i _ => (intOf i + 1).toNat)
      case atStart => exact ⟨nby m, Nat.le_refl _, rfl, by simpa [byteV] using hown1, hb1⟩
      case round =>
        obtain ⟨j, hj, rfl, hown2, hb2⟩ := hrel
        clear hown1 hb1
        by_cases hj0 : 1 ≤ j
        · go_wp2_with (at_builtin; refine wpList_append_own _ rfl (.tmp 30) (.tmp 36) 99 rfl base 5 i0 _ 1 1 Tryz.underlying99 hi hz0 hz1 hz2 rfl (by decide) _ _ _ rfl (hown2.alloc _) ⟨wr.heap.size, 0, none⟩ 1 1 [.int .u8 ((m : Int) / 2 ^ (8 * (j - 1)) % 256)] rfl rfl ?d1 ?d2 ?d3 ?d4 ?d5 ?d6)
          case d1 => exact cell_one_new _ _ _
          case d2 => simp [Value.oneCell']
          case d3 => have := hn2.out; unfold maxLen; omega
          case d4 => have := hn2.out; omega
          case d5 => have := hb2.size; simp; omega
          case d6 =>
            intro v3 w3 hown3 hg3 _
            have hb3 : Below base w' w3 := (hb2.alloc (by have := hb2.size; omega) _).grown hg3 (by have := hb2.size; simp; omega) (fun k h => (hown2.lt k h).1)
            have hnext : w3.ownsRow base 5 1 v3 (nb + 1 + (nby m - (j - 1))) (xs ++ [.int .u8 ((nby m : Int))] ++ byteV ((be (nby m) m).take (nby m - (j - 1)))) := by
              rw [show nby m - (j - 1) = nby m - j + 1 by omega, byteV_be_take hj hj0]
              simpa [Nat.add_assoc] using hown3
            clear hown2 hg3 hown3
            go_wp2_with fail
            go_roundw
            case rel => exact ⟨j - 1, by omega, by congr 1; omega, hnext, hb3⟩
            case measure => simp [intOf]; omega
        · have hj00 : j = 0 := by omega
          subst hj00
          go_wp2_with fail
          go_ret
          refine ⟨_, rfl, ?_, hb2⟩
          rw [hfin.out]
          have e2 : (be (nby m) m).take (nby m - 0) = be (nby m) m := List.take_of_length_le (by rw [be_length]; omega)
          rw [e2] at hown2
          have e3 : (xs ++ byteV (UInt8.ofNat (nby m) :: be (nby m) m)).length = nb + 1 + (nby m - 0) := by
            have := hown2.1
            simp [byteV, be_length] at this ⊢
            omega
          rw [e3]
          simpa [byteV, show (nby m : Int) % 256 = (nby m : Int) by omega] using hown2

end Go.Proofs.YtofnehgjkdcmnaaGreatDoor
