/- The walk of octet.head over what octet.lay has laid. -/
import Derived.Test.YtofnehgjkdcmnaaGreatDoorGOct
import Derived.Test.YtofnehgjkdcmnaaGreatDoorGChk
import Derived.Lib.ConvBytes
namespace Go.Proofs.YtofnehgjkdcmnaaGreatDoor
open Go.RowKit Hg

theorem and127 : ∀ (a : Fin 9) (s : Bool), bits BinOp.and IntKind.u8 (((if s then 128 else 0) + a.val : Nat) : Int) 127 = (a.val : Int) := by decide +kernel

theorem ofInt_nat (a : Nat) (ha : a < 9223372036854775808) : (BitVec.ofInt 64 (a : Int)).toNat = a := by
  rw [BitVec.ofInt_natCast, BitVec.toNat_ofNat]; exact Nat.mod_eq_of_lt (by omega)
theorem or_i64 (a b : Nat) (ha : a < 9223372036854775808) (hb : b < 9223372036854775808) : bits .or .i64 (a : Int) (b : Int) = ((a ||| b : Nat) : Int) := by
  have hx : a ||| b < 2 ^ 63 := Nat.or_lt_two_pow (by omega) (by omega)
  show IntKind.i64.wrap ((BitVec.ofInt 64 (a : Int) ||| BitVec.ofInt 64 (b : Int)).toNat : Int) = _
  rw [BitVec.toNat_or, ofInt_nat a ha, ofInt_nat b hb, IntKind.wrap_i64]
  omega
theorem shl_or (a c : Nat) (hc : c < 256) : (a * 256) ||| c = a * 256 + c := by
  have := Nat.shiftLeft_add_eq_or_of_lt (a := a) (b := c) (i := 8) (by omega)
  rw [Nat.shiftLeft_eq] at this
  simpa using this.symm

theorem val_take {l : Bytes} {j : Nat} (h : j < l.length) : val (l.take (j + 1)) = val (l.take j) * 256 + (l.getD j 0).toNat := by
  have e : l.take (j + 1) = l.take j ++ [l.getD j 0] := by
    rw [List.take_add_one, List.getElem?_eq_getElem h]
    simp [List.getD, List.getElem?_eq_getElem h]
  rw [e]
  have := foldl_val [l.getD j 0] (val (l.take j))
  simp only [val, List.foldl_append, List.foldl_cons, List.foldl_nil]

theorem val_take_le (l : Bytes) : ∀ j, val (l.take j) * 256 ^ (l.length - j) ≤ val l := by
  intro j
  have h : l = l.take j ++ l.drop j := (List.take_append_drop j l).symm
  have h2 : val l = val (l.take j) * 256 ^ (l.drop j).length + val (l.drop j) := by
    conv => lhs; rw [h]
    have := foldl_val (l.drop j) (val (l.take j))
    rw [← this]
    simp only [val, List.foldl_append]
  rw [h2, List.length_drop]
  omega

theorem step_val {m j : Nat} (hm : m < 9223372036854775808) (hj : j < nby m) :
    bits BinOp.or IntKind.i64 (wrap64 ((val ((be (nby m) m).take j) : Int) * 256)) (wrap64 ((((be (nby m) m)[j]?.getD 0).toNat : Nat) : Int)) = (val ((be (nby m) m).take (j + 1)) : Int) := by
  have h1 := val_take_le (be (nby m) m) (j + 1)
  rw [val_be_nby, be_length] at h1
  have h2 : 1 ≤ 256 ^ (nby m - (j + 1)) := Nat.pow_pos (by omega)
  have h3 : val ((be (nby m) m).take (j + 1)) ≤ m := Nat.le_trans (Nat.le_mul_of_pos_right _ h2) h1
  have h4 := val_take (l := be (nby m) m) (j := j) (by rw [be_length]; exact hj)
  have h5 : (((be (nby m) m)[j]?.getD 0).toNat) < 256 := UInt8.toNat_lt _
  have h6 : (be (nby m) m).getD j 0 = (be (nby m) m)[j]?.getD 0 := rfl
  rw [h6] at h4
  generalize ((be (nby m) m)[j]?.getD 0).toNat = c at h4 h5 ⊢
  generalize val ((be (nby m) m).take j) = a at h4 ⊢
  rw [h4] at h3 ⊢
  have e1 : wrap64 ((a : Int) * 256) = ((a * 256 : Nat) : Int) := by unfold wrap64; omega
  have e2 : wrap64 (c : Int) = (c : Int) := by unfold wrap64; omega
  rw [e1, e2, or_i64 _ _ (by omega) (by omega), shl_or a c h5]

set_option maxHeartbeats 1000000 in
set_option maxRecDepth 100000 in
theorem head_core (c k m r : Nat) (s B : ByteArray) (w : World) (hm : m < 9223372036854775808) (hk : k = nby m) (hsz : s.size = k + r + 1) (hc : c = 128 + k)
    (h0 : ∀ h, (((s[0]'h).toNat : Nat) : Int) = (c : Int)) (hB : s.extract 1 (1 + k) = B) (hBl : B.data.toList = be k m) (h1 : 0 < k → ∀ h, ((((s[1]'h).toNat : Nat) : Int) == 0) = false) :
    Calls Tryz.prog 73 #[.string s] w (Ret (.tuple #[i64 (-(m : Int) - 1), i64 (1 + (k : Int)), .bool true]) w) := by
  have hk8 : k ≤ 8 := by rw [hk]; exact nby_le (by omega)
  have ha : bits BinOp.and IntKind.u8 (c : Int) 127 = (k : Int) := by
    have := and127 ⟨k, by omega⟩ true
    rw [hc]; simpa using this
  have he : (s.toList.isEmpty) = false := by
    cases h : s.toList with
    | nil =>
      rw [ByteArray.toList_eq] at h
      have h3 : s.data.size = 0 := by rw [← Array.length_toList, h]; rfl
      have h4 : s.size = s.data.size := rfl
      omega
    | cons _ _ => rfl
  have d1 : decide ((8 : Int) < (k : Int)) = false := by simp; omega
  have d2 : decide ((k : Int) + (r : Int) + 1 ≤ (k : Int)) = false := by simp; omega
  have hBs : B.size = k := by
    have h3 : B.data.size = k := by rw [← Array.length_toList, hBl, be_length]
    exact h3
  have hm2 := Lib.hid hm; have hk2 := Lib.hid hk; have hc2 := Lib.hid hc
  clear hm hk hc
  have HB := Lib.hid hBs
  have H1 := Lib.hid h1
  clear h1
  go_enter Tryz.func73, Tryz.ntmps73
  go_wp2_with fail
  rw [Lib.run_convert_string_bytes w 9 99 5 B Tryz.underlying9 Tryz.underlying99 Tryz.underlying5]
  have hcell : ∀ j, j < k → (Lib.bytesWorld w 5 B).cell? ⟨w.heap.size, j, none⟩ = some (.int .u8 ((be k m).getD j 0).toNat) := fun j hj => by
    rw [Lib.bytesWorld_cell w 5 B j (by omega), hBl]
  have hchg : Chg [] w (Lib.bytesWorld w 5 B) := ⟨rfl, rfl, rfl, by rw [Lib.bytesWorld_size]; omega, fun i hi _ => Lib.bytesWorld_at_old w 5 B i hi⟩
  generalize Lib.bytesWorld w 5 B = W at hcell hchg ⊢
  generalize grownCap w B.size 0 5 = cap
  rw [hBs]
  simp only [Result.andThen]
  rw [Oper.upon_value]
  clear d1 d2 hBs
  have HC := Lib.hid hcell
  clear hcell
  go_wp2_with fail
  go_loop [6, 8, 36] (fun n _ i => ∃ j : Nat, j ≤ k ∧ i = .int .i64 j ∧ n = i64 (val ((be k m).take j))) (fun _ _ i => k - (intOf i).toNat)
  case atStart => exact ⟨0, by omega, rfl, rfl⟩
  case round =>
    obtain ⟨j, hj, rfl, rfl⟩ := hrel
    rcases Nat.lt_or_ge j k with hlt | hge
    · have hc := HC.out j hlt
      go_wp2_with fail
      go_round
      case rel => exact ⟨j + 1, by omega, by go_num, by
        have e := hk2.out
        subst e
        exact congrArg (Value.int .i64) (step_val hm2.out hlt)⟩
      case measure => simp [intOf]; omega
    · have hjk : j = k := by omega
      subst hjk
      have hv : ((val ((be j m).take j) : Nat) : Int) = (m : Int) := by
        rw [List.take_of_length_le (by rw [be_length]; omega)]
        have e := hk2.out
        rw [e, val_be_nby]
      have h9 : bits BinOp.xor IntKind.i64 (-1) (m : Int) = -(m : Int) - 1 := by
        have hm := hm2.out
        show IntKind.i64.wrap ((BitVec.ofInt 64 (-1) ^^^ BitVec.ofInt 64 (m : Int)).toNat : Int) = _
        have e : BitVec.ofInt 64 (-1) ^^^ BitVec.ofInt 64 (m : Int) = ~~~ BitVec.ofInt 64 (m : Int) := by
          rw [show BitVec.ofInt 64 (-1) = BitVec.allOnes 64 by decide, BitVec.allOnes_xor]
        rw [e, BitVec.toNat_not, BitVec.toNat_ofInt, IntKind.wrap_i64]
        omega
      have d3 : decide ((m : Int) < 0) = false := by simp
      have d4 : decide (127 < (c : Int)) = true := by have := hc2.out; simp; omega
      clear HC
      rcases Nat.eq_zero_or_pos j with hz | hp
      · have d5 : decide (0 < (j : Int)) = false := by simp; omega
        have d6 : decide (0 < j) = false := by simp; omega
        clear hz
        go_wp2_with fail
        go_ret3
        exact ⟨rfl, hchg⟩
      · have d5 : decide (0 < (j : Int)) = true := by simp; omega
        have d6 : decide (0 < j) = true := by simpa using hp
        have h1 := H1.out hp
        go_wp2_with fail
        go_ret3
        exact ⟨rfl, hchg⟩
set_option maxHeartbeats 1000000 in
set_option maxRecDepth 100000 in
theorem head_core_pos (c k m r : Nat) (s B : ByteArray) (w : World) (hm : m < 9223372036854775808) (hk : k = nby m) (hsz : s.size = k + r + 1) (hc : c = k)
    (h0 : ∀ h, (((s[0]'h).toNat : Nat) : Int) = (c : Int)) (hB : s.extract 1 (1 + k) = B) (hBl : B.data.toList = be k m) (h1 : 0 < k → ∀ h, ((((s[1]'h).toNat : Nat) : Int) == 0) = false) :
    Calls Tryz.prog 73 #[.string s] w (Ret (.tuple #[i64 (m : Int), i64 (1 + (k : Int)), .bool true]) w) := by
  have hk8 : k ≤ 8 := by rw [hk]; exact nby_le (by omega)
  have ha : bits BinOp.and IntKind.u8 (c : Int) 127 = (k : Int) := by
    have := and127 ⟨k, by omega⟩ false
    rw [hc]; simpa using this
  have he : (s.toList.isEmpty) = false := by
    cases h : s.toList with
    | nil =>
      rw [ByteArray.toList_eq] at h
      have h3 : s.data.size = 0 := by rw [← Array.length_toList, h]; rfl
      have h4 : s.size = s.data.size := rfl
      omega
    | cons _ _ => rfl
  have d1 : decide ((8 : Int) < (k : Int)) = false := by simp; omega
  have d2 : decide ((k : Int) + (r : Int) + 1 ≤ (k : Int)) = false := by simp; omega
  have hBs : B.size = k := by
    have h3 : B.data.size = k := by rw [← Array.length_toList, hBl, be_length]
    exact h3
  have hm2 := Lib.hid hm; have hk2 := Lib.hid hk; have hc2 := Lib.hid hc
  clear hm hk hc
  have HB := Lib.hid hBs
  have H1 := Lib.hid h1
  clear h1
  go_enter Tryz.func73, Tryz.ntmps73
  go_wp2_with fail
  rw [Lib.run_convert_string_bytes w 9 99 5 B Tryz.underlying9 Tryz.underlying99 Tryz.underlying5]
  have hcell : ∀ j, j < k → (Lib.bytesWorld w 5 B).cell? ⟨w.heap.size, j, none⟩ = some (.int .u8 ((be k m).getD j 0).toNat) := fun j hj => by
    rw [Lib.bytesWorld_cell w 5 B j (by omega), hBl]
  have hchg : Chg [] w (Lib.bytesWorld w 5 B) := ⟨rfl, rfl, rfl, by rw [Lib.bytesWorld_size]; omega, fun i hi _ => Lib.bytesWorld_at_old w 5 B i hi⟩
  generalize Lib.bytesWorld w 5 B = W at hcell hchg ⊢
  generalize grownCap w B.size 0 5 = cap
  rw [hBs]
  simp only [Result.andThen]
  rw [Oper.upon_value]
  clear d1 d2 hBs
  have HC := Lib.hid hcell
  clear hcell
  go_wp2_with fail
  go_loop [6, 8, 36] (fun n _ i => ∃ j : Nat, j ≤ k ∧ i = .int .i64 j ∧ n = i64 (val ((be k m).take j))) (fun _ _ i => k - (intOf i).toNat)
  case atStart => exact ⟨0, by omega, rfl, rfl⟩
  case round =>
    obtain ⟨j, hj, rfl, rfl⟩ := hrel
    rcases Nat.lt_or_ge j k with hlt | hge
    · have hc := HC.out j hlt
      go_wp2_with fail
      go_round
      case rel => exact ⟨j + 1, by omega, by go_num, by
        have e := hk2.out
        subst e
        exact congrArg (Value.int .i64) (step_val hm2.out hlt)⟩
      case measure => simp [intOf]; omega
    · have hjk : j = k := by omega
      subst hjk
      have hv : ((val ((be j m).take j) : Nat) : Int) = (m : Int) := by
        rw [List.take_of_length_le (by rw [be_length]; omega)]
        have e := hk2.out
        rw [e, val_be_nby]
      have h9 : bits BinOp.xor IntKind.i64 (-1) (m : Int) = -(m : Int) - 1 := by
        have hm := hm2.out
        show IntKind.i64.wrap ((BitVec.ofInt 64 (-1) ^^^ BitVec.ofInt 64 (m : Int)).toNat : Int) = _
        have e : BitVec.ofInt 64 (-1) ^^^ BitVec.ofInt 64 (m : Int) = ~~~ BitVec.ofInt 64 (m : Int) := by
          rw [show BitVec.ofInt 64 (-1) = BitVec.allOnes 64 by decide, BitVec.allOnes_xor]
        rw [e, BitVec.toNat_not, BitVec.toNat_ofInt, IntKind.wrap_i64]
        omega
      have d3 : decide ((m : Int) < 0) = false := by simp
      have d4 : decide (127 < (c : Int)) = false := by have := hc2.out; simp; omega
      clear HC
      rcases Nat.eq_zero_or_pos j with hz | hp
      · have d5 : decide (0 < (j : Int)) = false := by simp; omega
        have d6 : decide (0 < j) = false := by simp; omega
        clear hz
        go_wp2_with fail
        go_ret3
        exact ⟨rfl, hchg⟩
      · have d5 : decide (0 < (j : Int)) = true := by simp; omega
        have d6 : decide (0 < j) = true := by simpa using hp
        have h1 := H1.out hp
        go_wp2_with fail
        go_ret3
        exact ⟨rfl, hchg⟩

/-- a text that begins with a number -/
theorem head_any (x : Int) (rest : Bytes) (w : World) (hx : I64 x) :
    Calls Tryz.prog 73 #[strV (oct x ++ rest)] w (Ret (.tuple #[i64 x, i64 ((oct x).length : Int), .bool true]) w) := by
  have hm := mag_lt hx
  have hk8 : nby (mag x) ≤ 8 := nby_le (by omega)
  have hsz : ∀ c, (ByteArray.mk ((c :: (be (nby (mag x)) (mag x)) ++ rest).toArray)).size = nby (mag x) + rest.length + 1 := fun c => by
    show ((c :: (be (nby (mag x)) (mag x)) ++ rest).toArray).size = _
    simp [be_length]
  have hext : ∀ c, ((ByteArray.mk ((c :: (be (nby (mag x)) (mag x)) ++ rest).toArray)).extract 1 (1 + nby (mag x))).data.toList = be (nby (mag x)) (mag x) := fun c => by
    rw [Lib.extract_data]
    simp [be_length]
  have h1 : ∀ c, 0 < nby (mag x) → ∀ h, (((((ByteArray.mk ((c :: (be (nby (mag x)) (mag x)) ++ rest).toArray))[1]'h).toNat : Nat) : Int) == 0) = false := fun c hp h => by
    have hm0 : 0 < mag x := by
      rcases Nat.eq_zero_or_pos (mag x) with h0 | h0
      · rw [h0, nby_zero] at hp; omega
      · exact h0
    obtain ⟨d, l, e, hd, _⟩ := be_head_ne hm0
    have hg : (ByteArray.mk ((c :: (be (nby (mag x)) (mag x)) ++ rest).toArray))[1]'h = d := by
      show ((c :: (be (nby (mag x)) (mag x)) ++ rest).toArray)[1]'h = d
      simp [e]
    rw [hg]
    have : d.toNat ≠ 0 := fun h0 => hd (UInt8.toNat_inj.1 (by simpa using h0))
    simp; omega
  by_cases hn : x < 0
  · have hs : sgn x = 128 := by unfold sgn; rw [if_pos hn]
    have hv : -(mag x : Int) - 1 = x := by unfold mag; rw [if_pos hn]; omega
    have ho : oct x = UInt8.ofNat (128 + nby (mag x)) :: be (nby (mag x)) (mag x) := by unfold oct; rw [hs]
    have := head_core (128 + nby (mag x)) (nby (mag x)) (mag x) rest.length ⟨((UInt8.ofNat (128 + nby (mag x)) :: (be (nby (mag x)) (mag x)) ++ rest).toArray)⟩ _ w hm rfl (hsz _) rfl (fun h => by
      show (((((UInt8.ofNat (128 + nby (mag x)) :: (be (nby (mag x)) (mag x)) ++ rest).toArray)[0]'h).toNat : Nat) : Int) = _
      simp; omega) rfl (hext _) (h1 _)
    rw [hv] at this
    rw [ho]
    have hl : (((UInt8.ofNat (128 + nby (mag x)) :: be (nby (mag x)) (mag x)).length : Nat) : Int) = 1 + (nby (mag x) : Int) := by simp [be_length]; omega
    rw [hl]
    exact this
  · have hs : sgn x = 0 := by unfold sgn; rw [if_neg hn]
    have hv : (mag x : Int) = x := by unfold mag; rw [if_neg hn]; omega
    have ho : oct x = UInt8.ofNat (nby (mag x)) :: be (nby (mag x)) (mag x) := by unfold oct; rw [hs, Nat.zero_add]
    have := head_core_pos (nby (mag x)) (nby (mag x)) (mag x) rest.length ⟨((UInt8.ofNat (nby (mag x)) :: (be (nby (mag x)) (mag x)) ++ rest).toArray)⟩ _ w hm rfl (hsz _) rfl (fun h => by
      show (((((UInt8.ofNat (nby (mag x)) :: (be (nby (mag x)) (mag x)) ++ rest).toArray)[0]'h).toNat : Nat) : Int) = _
      simp; omega) rfl (hext _) (h1 _)
    rw [hv] at this
    rw [ho]
    have hl : (((UInt8.ofNat (nby (mag x)) :: be (nby (mag x)) (mag x)).length : Nat) : Int) = 1 + (nby (mag x) : Int) := by simp [be_length]; omega
    rw [hl]
    exact this
end Go.Proofs.YtofnehgjkdcmnaaGreatDoor
