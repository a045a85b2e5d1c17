/- The walk of All. -/
import Derived.Laws.AppendOwn
import Derived.Test.YtofnehgjkdcmnaaGreatDoorGLgDisk7
import Derived.Test.YtofnehgjkdcmnaaGreatDoorGLgFirst
namespace Go.Proofs.YtofnehgjkdcmnaaGreatDoor
open Go.RowKit Hg

theorem parse1_le {tl : Byts → Byts} {r : Byts} {t : Byts} {n : Nat} (h : parse1 tl r = some (t, n)) : 7 ≤ n ∧ n ≤ r.length ∧ t.length ≤ 65536 := by
  match r, h with
  | a :: b :: c :: q, h =>
    unfold parse1 at h
    simp only at h
    split at h
    · cases h
    · split at h
      · cases h
      · split at h
        · injection h with h
          injection h with h1 h2
          rename_i k1 k2 _
          subst h1 h2
          refine ⟨by omega, ?_, ?_⟩
          · simp only [List.length_cons]; omega
          · rw [List.length_take]; omega
        · cases h
theorem parseN_le {tl : Byts → Byts} : ∀ (k : Nat) (s : Byts), (parseN tl k s).2 ≤ s.length ∧ (parseN tl k s).1.length ≤ s.length
  | 0, s => by simp [parseN]
  | k + 1, s => by
    unfold parseN
    cases h : parse1 tl s with
    | none => simp
    | some x =>
      obtain ⟨t, n⟩ := x
      have h1 := parse1_le h
      have h2 := parseN_le (tl := tl) k (s.drop n)
      rw [List.length_drop] at h2
      simp only [List.length_cons]
      omega
/-- the frames behind a place, as a loop over them goes -/
def Par (tl : Byts → Byts) (s : Byts) (ts : List Byts) (a : Nat) : Prop :=
  ∃ k, (s.drop a).length < k ∧ parseN tl (s.length + 1) s = (ts ++ (parseN tl k (s.drop a)).1, a + (parseN tl k (s.drop a)).2)
theorem Par.start (tl : Byts → Byts) (s : Byts) : Par tl s [] 0 := ⟨s.length + 1, by simp, by simp⟩
theorem Par.next {tl : Byts → Byts} {s t : Byts} {ts : List Byts} {a n : Nat} (h : Par tl s ts a) (hp : parse1 tl (s.drop a) = some (t, n)) : Par tl s (ts ++ [t]) (a + n) := by
  obtain ⟨k, hk, he⟩ := h
  have h1 := parse1_le hp
  cases k with
  | zero => omega
  | succ k =>
    rw [List.length_drop] at hk h1
    refine ⟨k, by rw [List.length_drop]; omega, ?_⟩
    have e : parseN tl (k + 1) (s.drop a) = (t :: (parseN tl k ((s.drop a).drop n)).1, n + (parseN tl k ((s.drop a).drop n)).2) := by rw [parseN, hp]
    rw [he, e]
    simp only [List.drop_drop, List.append_assoc, List.singleton_append, Nat.add_assoc]
theorem Par.stop {tl : Byts → Byts} {s : Byts} {ts : List Byts} {a : Nat} (h : Par tl s ts a) (hp : parse1 tl (s.drop a) = none) : parseN tl (s.length + 1) s = (ts, a) := by
  obtain ⟨k, hk, he⟩ := h
  cases k with
  | zero => omega
  | succ k =>
    have e : parseN tl (k + 1) (s.drop a) = ([], 0) := by rw [parseN, hp]
    rw [he, e]
    simp

/-- what All answers -/
def AllP (T : Nat → Nat) (s : Bytes) (w : World) (e : Ending) (w' : World) : Prop :=
  ∃ v, e = .returned (.tuple #[v, i64 ((parseN (tlT T) (s.length + 1) s).2 : Int)]) ∧ w'.ownsRow w.heap.size 9 1 v (parseN (tlT T) (s.length + 1) s).1.length ((parseN (tlT T) (s.length + 1) s).1.map encStr) ∧ Chg [] w w'

set_option maxHeartbeats 1000000 in
set_option maxRecDepth 100000 in
theorem all_any (s : Bytes) (w : World) (T : Nat → Nat) (hT : ∀ i, i < 16 → T i < 4294967296) (hN : ∀ i, i < 16 → w.cell? ⟨0, i, none⟩ = some (.int .u32 (T i : Int))) (hw0 : 0 < w.heap.size) (hs : s.length ≤ 4194304) :
    Calls Tryz.prog 19 #[strV s] w (AllP T s w) := by
  obtain ⟨i0, hi, hz0, hz1, hz2⟩ := info_parts infoStr
  have HT := Lib.hid hT
  have HN := Lib.hid hN
  have HW0 := Lib.hid hw0
  clear hT hN hw0
  go_enter Tryz.func19, Tryz.ntmps19
  go_wp2_with fail
  go_loopw [4, 5] (fun v i wr => ∃ (a : Nat) (ts : List Byts), a ≤ s.length ∧ ts.length ≤ a ∧ i = i64 (a : Int) ∧ wr.ownsRow w.heap.size 9 1 v ts.length (ts.map encStr) ∧ Hid (Par (tlT T) s ts a) ∧ Below w.heap.size w wr) (fun _ i _ => s.length - (intOf i).toNat)
  case atStart => exact ⟨0, [], Nat.zero_le _, by simp, rfl, ⟨by simp, .inl ⟨rfl, rfl⟩⟩, Par.start _ _, Below.refl _ _⟩
  case round =>
    obtain ⟨a, ts, ha, hta, rfl, hrow, HPar, hnx⟩ := hrel
    have hC : Chg [] w wr := Chg.of_below hnx
    have F1 := Lib.hid (first_any s a wr T HT.out (fun i hi => by rw [hC.cell (p := ⟨0, i, none⟩) HW0.out (by simp)]; exact HN.out i hi) (Nat.lt_of_lt_of_le HW0.out hC.size) ha hs)
    clear hC
    have HX := Lib.hid hnx
    clear hnx
    have HROW := Lib.hid hrow
    clear hrow
    go_wp2_with fail
    (with_reducible refine F1.out.mono ?_)
    rintro e w1 hF
    unfold FirstP at hF
    obtain ⟨hF, hg1⟩ := hF
    have HG1 := Lib.hid hg1
    clear hg1
    cases hp : parse1 (tlT T) (s.drop a) with
    | none =>
      rw [hp] at hF
      obtain ⟨c, hc, rfl⟩ := hF
      have HST := Lib.hid (HPar.out.stop hp)
      clear hp
      have hc2 : (c != 0) = true := by rw [bne, hc]; rfl
      go_wp2_with fail
      go_returns
      unfold AllP
      rw [HST.out]
      exact ⟨_, rfl, own_chg HROW.out HG1.out (by simp), (Chg.of_below HX.out).trans HG1.out⟩
    | some x =>
      obtain ⟨t, n⟩ := x
      rw [hp] at hF
      dsimp only at hF
      subst hF
      have hrow1 := own_chg HROW.out HG1.out (by simp)
      have hle := parse1_le hp
      have HN2 := Lib.hid (HPar.out.next hp)
      have hb1 : Below w.heap.size w w1 := HX.out.trans (HG1.out.below.mono (HX.out.size))
      have hla : a + n ≤ s.length := by have := hle.2.1; rw [List.length_drop] at this; omega
      have h7 := hle.1
      clear hp hle HROW HPar HG1 F1
      have HB := Lib.hid hb1
      have hsz := hb1.size
      clear hb1
      go_wp2_with (at_builtin; refine wpList_append_own _ rfl _ _ 27 rfl w.heap.size 9 i0 (.string ⟨#[]⟩) 1 16 Tryz.underlying27 hi hz0 hz1 hz2 rfl (by decide) _ _ _ rfl (hrow1.alloc _) ⟨w1.heap.size, 0, none⟩ 1 1 [encStr t] rfl rfl (cell_one_new _ _ _) (by simp [Value.oneCell', encStr]) (by unfold maxLen at *; omega) (by omega) (by simp; omega) ?_; intro v' w3 hown' hg3 hnil3; go_frame)
      have hb3 : Below w.heap.size w w3 := ((HB.out.alloc hsz _).grown hg3 (by simp; omega) (fun j hj => (hrow1.lt j hj).1))
      have HH := Lib.hid (And.intro hown' hb3)
      clear hown' hb3 hg3 hnil3
      go_wp2_with fail
      go_roundw
      case rel => exact ⟨a + n, ts ++ [t], hla, by simp; omega, rfl, by simpa using HH.out.1, HN2.out, HH.out.2⟩
      case measure => simp [intOf]; omega
end Go.Proofs.YtofnehgjkdcmnaaGreatDoor
