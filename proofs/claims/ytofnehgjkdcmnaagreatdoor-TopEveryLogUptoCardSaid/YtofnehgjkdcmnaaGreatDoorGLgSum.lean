/- The plain law of a frame's checksum, its table a variable. -/
import Derived.Deep.LoopGhost
import Derived.Lib.LaidTab
import Derived.Test.YtofnehgjkdcmnaaGreatDoorGLgHead
import Derived.BigGuardPart
import Derived.Test.YtofnehgjkdcmnaaGreatDoorGLgP
namespace Go.Proofs.YtofnehgjkdcmnaaGreatDoor
open Go.RowKit Hg

theorem wrap_u32 (n : Int) : IntKind.u32.wrap n = n % 4294967296 := by simp [IntKind.wrap, IntKind.bits, IntKind.signed]
theorem nat32 (a : Nat) (ha : a < 4294967296) : (BitVec.ofInt 32 (a : Int)).toNat = a := by
  rw [BitVec.ofInt_natCast, BitVec.toNat_ofNat]; exact Nat.mod_eq_of_lt (by omega)
theorem xor_u32 (a b : Nat) (ha : a < 4294967296) (hb : b < 4294967296) : bits .xor .u32 (a : Int) (b : Int) = ((a ^^^ b : Nat) : Int) := by
  have h : a ^^^ b < 2 ^ 32 := Nat.xor_lt_two_pow (by omega) (by omega)
  show IntKind.u32.wrap ((BitVec.ofInt 32 (a : Int) ^^^ BitVec.ofInt 32 (b : Int)).toNat : Int) = _
  rw [BitVec.toNat_xor, nat32 a ha, nat32 b hb, wrap_u32]
  omega
theorem and15_u32 (a : Nat) (ha : a < 4294967296) : bits .and .u32 (a : Int) 15 = ((a % 16 : Nat) : Int) := by
  have h : a &&& 15 = a % 16 := Nat.and_two_pow_sub_one_eq_mod a 4
  show IntKind.u32.wrap ((BitVec.ofInt 32 (a : Int) &&& BitVec.ofInt 32 ((15 : Nat) : Int)).toNat : Int) = _
  rw [BitVec.toNat_and, nat32 a ha, nat32 15 (by decide), wrap_u32, h]
  omega
/-- one nibble -/
def nib (T : Nat → Nat) (c : Nat) : Nat := c / 16 ^^^ T (c % 16)
def crcB (T : Nat → Nat) (c : Nat) (b : UInt8) : Nat := nib T (nib T (c ^^^ b.toNat))
def crcF (T : Nat → Nat) (c : Nat) (s : List UInt8) : Nat := s.foldl (crcB T) c
theorem nib_lt {T : Nat → Nat} (hT : ∀ i, i < 16 → T i < 4294967296) {c : Nat} (h : c < 4294967296) : nib T c < 4294967296 :=
  Nat.xor_lt_two_pow (n := 32) (by omega) (hT _ (Nat.mod_lt _ (by decide)))
theorem crcB_lt {T : Nat → Nat} (hT : ∀ i, i < 16 → T i < 4294967296) {c : Nat} (h : c < 4294967296) (b : UInt8) : crcB T c b < 4294967296 := by
  have hb := b.toNat_lt
  exact nib_lt hT (nib_lt hT (Nat.xor_lt_two_pow (n := 32) h (by omega)))
theorem crcF_append (T : Nat → Nat) (c : Nat) (a b : List UInt8) : crcF T c (a ++ b) = crcF T (crcF T c a) b := List.foldl_append
theorem crcF_lt {T : Nat → Nat} (hT : ∀ i, i < 16 → T i < 4294967296) (s : List UInt8) : ∀ {c : Nat}, c < 4294967296 → crcF T c s < 4294967296 := by
  induction s with
  | nil => intro c h; exact h
  | cons b s ih => intro c h; exact ih (crcB_lt hT h b)
theorem crcF_succ (T : Nat → Nat) (c : Nat) (s : List UInt8) (j : Nat) (hj : j < s.length) : crcF T c (s.take (j + 1)) = crcB T (crcF T c (s.take j)) s[j] := by
  rw [List.take_succ_eq_append_getElem hj, crcF_append]; rfl
end Go.Proofs.YtofnehgjkdcmnaaGreatDoor

/- The walk of a frame's Sum. -/
namespace Go.Proofs.YtofnehgjkdcmnaaGreatDoor
open Go.RowKit Hg

theorem not_nat (z : Nat) (hz : z < 4294967296) : 4294967295 ^^^ z = 4294967295 - z := by
  have h : (BitVec.allOnes 32 ^^^ BitVec.ofNat 32 z).toNat = (~~~ BitVec.ofNat 32 z).toNat := by rw [BitVec.allOnes_xor]
  rw [BitVec.toNat_xor, BitVec.toNat_not, BitVec.toNat_ofNat, BitVec.toNat_allOnes, Nat.mod_eq_of_lt (by omega)] at h
  exact h
theorem not_u32 (z : Nat) (hz : z < 4294967296) : bits .xor .u32 IntKind.u32.max (z : Int) = ((4294967295 - z : Nat) : Int) := by
  rw [← not_nat z hz, ← xor_u32 4294967295 z (by decide) hz]; rfl

set_option maxHeartbeats 1000000 in
set_option maxRecDepth 100000 in
theorem sum_any (B cap : Nat) (xs : List Bytes) (w : World) (hx : ∀ j (hj : j < xs.length), w.cell? ⟨B, j, none⟩ = some (strV xs[j])) (hl : xs.length ≤ 1000) (hs : ∀ x ∈ xs, x.length ≤ 1000000) (T : Nat → Nat) (hT : ∀ i, i < 16 → T i < 4294967296) (hN : ∀ i, i < 16 → w.cell? ⟨0, i, none⟩ = some (.int .u32 (T i : Int))) (hw0 : 0 < w.heap.size) :
    Calls Tryz.prog 99 #[.slice (some ⟨B, 0, none⟩) xs.length cap] w fun e w' => e = .returned (.int .u32 ((4294967295 - crcF T 4294967295 xs.flatten : Nat) : Int)) ∧ Chg [] w w' := by
  have HT := Lib.hid hT
  have HN := Lib.hid hN
  have HW0 := Lib.hid hw0
  clear hT hN hw0
  go_enter Tryz.func99, Tryz.ntmps99
  go_wp2_with fail
  go_loopw [3, 9] (fun c i wr => ∃ (k : Nat) (z : Nat), k ≤ xs.length ∧ i = i64 (k : Int) ∧ c = .int .u32 (z : Int) ∧ Hid (z = crcF T 4294967295 (xs.take k).flatten) ∧ Chg [] w wr) (fun _ i _ => xs.length - (intOf i).toNat)
  case atStart => exact ⟨0, 4294967295, Nat.zero_le _, rfl, rfl, rfl, Chg.refl _ _⟩
  case round =>
    obtain ⟨k, z, hk1, rfl, rfl, hz, hC⟩ := hrel
    by_cases hlt : k < xs.length
    · have hLt : (k : Int) < (xs.length : Int) := by omega
      have hgc : wr.cell? ⟨B, k, none⟩ = some (strV xs[k]) := by
        have h1 := hx k hlt
        have hB : B < w.heap.size := by
          rcases Nat.lt_or_ge B w.heap.size with h | h
          · exact h
          · exfalso; simp [World.cell?, Array.getElem?_eq_none h] at h1
        rw [hC.cell (p := ⟨B, k, none⟩) hB (by simp)]; exact h1
      have hxl := hs _ (List.getElem_mem hlt)
      have HX := Lib.hid hx
      have HC := Lib.hid hC
      clear hC hx hs
      go_wp2_with fail
      have HE : Hid ((xs.take (k + 1)).flatten = (xs.take k).flatten ++ xs[k]) := by rw [List.take_succ_eq_append_getElem hlt, List.flatten_append]; show _ ++ (xs[k] ++ []) = _; rw [List.append_nil]
      generalize xs[k] = x at hgc hxl HE ⊢
      go_loopw [3, 6] (fun c i wq => ∃ (j : Nat) (y : Nat), j ≤ x.length ∧ i = i64 (j : Int) ∧ c = .int .u32 (y : Int) ∧ Hid (y = crcF T z (x.take j)) ∧ Chg [] w wq) (fun _ i _ => x.length - (intOf i).toNat)
      case atStart => exact ⟨0, z, Nat.zero_le _, rfl, rfl, rfl, HC.out⟩
      case round =>
        obtain ⟨j, y, hj1, rfl, rfl, hy, hC2⟩ := hrel
        by_cases hjl : j < x.length
        · have hLt2 : (j : Int) < (x.length : Int) := by omega
          clear hgc
          have hzl : z < 4294967296 := by rw [hz.out]; exact crcF_lt HT.out _ (by decide)
          have hyl : y < 4294967296 := by rw [hy.out]; exact crcF_lt HT.out _ hzl
          have HY : Hid (crcB T y x[j] = crcF T z (x.take (j + 1))) := by show crcB T y x[j] = _; rw [crcF_succ T z x j hjl, ← hy.out]
          have hb := x[j].toNat_lt
          have E1 : bits .xor .u32 (y : Int) (((ByteArray.mk x.toArray)[j]'(by show j < x.toArray.size; simpa using hjl)).toNat % 4294967296 : Int) = ((y ^^^ x[j].toNat : Nat) : Int) := by
            rw [← xor_u32 y x[j].toNat hyl (by omega)]
            congr 1
            show ((x.toArray[j]'(by simpa using hjl)).toNat : Int) % 4294967296 = _
            simp; omega
          have h1 : y ^^^ x[j].toNat < 4294967296 := Nat.xor_lt_two_pow (n := 32) hyl (by omega)
          have h2 := nib_lt HT.out h1
          unfold crcB at HY
          generalize y ^^^ x[j].toNat = a at HY E1 h1 h2
          have step : ∀ a : Nat, a < 4294967296 → bits .and .u32 (a : Int) 15 = ((a % 16 : Nat) : Int) ∧ bits .xor .u32 ((a : Int) / 16) (T (a % 16) : Int) = ((nib T a : Nat) : Int) ∧ wr.cell? ⟨0, a % 16, none⟩ = some (.int .u32 (T (a % 16) : Int)) ∧ a % 16 < 16 := fun a h1 => by
            refine ⟨and15_u32 a h1, ?_, ?_, Nat.mod_lt _ (by decide)⟩
            · have := xor_u32 (a / 16) (T (a % 16)) (by omega) (HT.out _ (by omega))
              rw [Int.natCast_ediv] at this
              exact this
            · rw [hC2.cell (p := ⟨0, a % 16, none⟩) HW0.out (by simp)]; exact HN.out _ (by omega)
          obtain ⟨E2, E3, N1, m1⟩ := step a h1
          obtain ⟨E4, E5, N2, m2⟩ := step (nib T a) h2
          generalize nib T (nib T a) = a2 at HY E5
          generalize nib T a = a1 at E3 E4 E5 N2 m2
          generalize a1 % 16 = r2 at E4 E5 N2 m2
          generalize a % 16 = r1 at E2 E3 N1 m1
          generalize T r1 = t1 at E3 N1
          generalize T r2 = t2 at E5 N2
          have HC2 := Lib.hid hC2
          clear hC2 step h1 h2 hzl hyl
          go_wp2_with fail
          exact ⟨⟨j + 1, a2, hjl, rfl, rfl, HY, HC2.out⟩, by simp [intOf]; omega⟩
        · have hLt2 : ¬ ((j : Int) < (x.length : Int)) := by omega
          obtain rfl : j = x.length := by omega
          rw [List.take_length] at hy
          have HC2 := Lib.hid hC2
          clear hC2 hgc
          have HY : Hid (y = crcF T 4294967295 (xs.take (k + 1)).flatten) := by show y = _; rw [HE.out, crcF_append, ← hz.out]; exact hy
          have hkk : k + 1 ≤ xs.length := hlt
          go_wp2_with fail
          exact ⟨⟨k + 1, y, hkk, rfl, rfl, HY, HC2.out⟩, by simp [intOf]; omega⟩
    · have hLt : ¬ ((k : Int) < (xs.length : Int)) := by omega
      obtain rfl : k = xs.length := by omega
      rw [List.take_length] at hz
      have HC := Lib.hid hC
      have hzl : z < 4294967296 := by rw [hz.out]; exact crcF_lt HT.out _ (by decide)
      clear hC hx hs
      go_wp2_with fail
      go_returns
      refine ⟨?_, HC.out⟩
      rw [← hz.out]
      exact congrArg (fun v => Ending.returned (.int .u32 v)) (not_u32 z hzl)
end Go.Proofs.YtofnehgjkdcmnaaGreatDoor
