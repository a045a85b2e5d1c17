/- A disk in memory; the walks of its find, open, Read and Size. -/
import Derived.BigGuardPart
import Derived.Handy
import Derived.Laws.ResultCell
import Derived.Maps.OwnSet
import Derived.Test.YtofnehgjkdcmnaaGreatDoorGLgP
import Derived.Test.YtofnehgjkdcmnaaGreatDoorGChk
namespace Go.Proofs.YtofnehgjkdcmnaaGreatDoor
open Go.RowKit Hg

/-- a result that is a cell block: what it reads as -/
theorem res_row {P : Program} {fn : Func} {p u : Tmp} {ty : TypeId} (h : fn.results = #[.cell p ty, .tmp u]) (tmps : Array Value) (w : World) (g : Nat) (t : TypeId) (cs : Array Value) (fr : Nat × Nat) (d : TypeDesc)
    (hp : tmps.getD p undef = .pointer (some ⟨g, 0, none⟩)) (hg : w.heap[g]? = some (.cells cs t fr))
    (hu : P.underlying ty = some d) (hd : (match d with | .struct _ | .array _ _ => true | _ => false) = true) (hi : (P.info? ty).map (·.size) = some cs.size) :
    (results fn tmps).run P w = .ok (.tuple #[.agg cs, tmps.getD u undef]) w := by
  rw [results_cell_tmp h, hp]
  simp [asAddr, run_loadVar_row w g t ty cs fr d hg hu hd hi, Result.andThen]

structure LD where
  files : List (Nat × LFile)
  room : Nat
  dead : Bool
abbrev fileV (f : LFile) : Value := .agg #[strV f.s, i64 (f.sure : Int)]
def fileL : List Value → Option (DataW Unit × List MemPlace)
  | [.string s, .int .i64 n] => some (.agg [.lit (.string s.data.toList), .lit (.int .i64 n)], [])
  | _ => none
def fileR : Value → Option (DataW Unit × List MemPlace)
  | .agg cs => fileL cs.toList
  | _ => none
theorem fileR_mk (f : LFile) : fileR (fileV f) = some (fileD f, []) := rfl
theorem fileR_inv {v : Value} {f : LFile} {ps : List MemPlace} (h : fileR v = some (fileD f, ps)) : v = fileV f := by
  unfold fileR at h
  split at h
  · rename_i cs
    unfold fileL at h
    split at h
    · rename_i s n hc
      simp only [Option.some.injEq, Prod.mk.injEq, fileD, DataW.agg.injEq, List.cons.injEq, DataW.lit.injEq, Lit.string.injEq, Lit.int.injEq, true_and, and_true] at h
      obtain ⟨⟨h1, h2⟩, _⟩ := h
      have e1 : s = ⟨f.s.toArray⟩ := by rw [← h1]
      have e2 : cs = #[.string s, .int .i64 n] := by rw [← hc]
      rw [e2, e1, h2]
    · cases h
  · cases h

theorem disk_key : Go.Maps.Keyed Tryz.prog 9 := Go.Maps.string_keyed Tryz.underlying9
theorem key_of (n : Nat) : keyOf Tryz.prog 9 (strV (logName n)) = some (keyL n) := by
  have h := Go.WideMaps.keyOf_string_mk Tryz.underlying9 (s := ⟨(logName n).toArray⟩) (by show (logName n).toArray.size ≤ _; simp [logName_length, maxLen])
  exact h

/-- the disk at block d, its map at block M -/
structure DiskAt (w : World) (d M : Nat) (D : LD) : Prop where
  blk : Blk w d 48 #[.map (some M), i64 (D.room : Int), .bool D.dead]
  map : w.ownsMap Tryz.prog 9 fileR M D.files.length (mapD D.files)
  asc : Asc D.files
  size : ∀ x ∈ D.files, x.2.s.length ≤ 4194304 ∧ x.2.sure ≤ x.2.s.length
  room : D.room ≤ 9223372036854775807

theorem map_chg {w w' : World} {S : List Nat} {M n : Nat} {D : DataW Unit} (h : w.ownsMap Tryz.prog 9 fileR M n D) (hg : Chg S w w') (hS : M ∉ S) : w'.ownsMap Tryz.prog 9 fileR M n D := by
  have hlt := h.lt
  obtain ⟨es, clock, hb, F, hs, hD⟩ := h
  exact ⟨es, clock, (hg.block M hlt hS).trans hb, F, hs, hD⟩
theorem DiskAt.chg {w w' : World} {S : List Nat} {d M : Nat} {D : LD} (h : DiskAt w d M D) (hg : Chg S w w') (h1 : d ∉ S) (h2 : M ∉ S) : DiskAt w' d M D :=
  ⟨h.blk.chg hg h1, map_chg h.map hg h2, h.asc, h.size, h.room⟩
theorem DiskAt.new_ {w w' : World} {d M : Nat} {D : LD} (h : DiskAt w d M D) (hg : Chg [] w w') : DiskAt w' d M D := h.chg hg (by simp) (by simp)

/-- the file that a name finds; the empty one, if there is none -/
def fileOr (l : List (Nat × LFile)) (n : Nat) : LFile := (lget l n).getD ⟨[], 0⟩
theorem look_disk {w : World} {d M : Nat} {D : LD} (h : DiskAt w d M D) (n : Nat) (hn : n < 100000000) :
    (Instr.lookup 46 (.map (some M)) (strV (logName n)) true).run Tryz.prog w = .ok (.tuple #[fileV (fileOr D.files n), .bool (lget D.files n).isSome]) w := by
  obtain ⟨v, ps, hrun, hv⟩ := h.map.look_ok disk_key Tryz.underlying46 (z := fileV ⟨[], 0⟩) (zd := fileD ⟨[], 0⟩) (zp := []) (Tryz.zeroValue85 w) rfl (key_of n)
  rw [has_get h.asc hn] at hrun
  rw [at_get h.asc hn] at hv
  have : v = fileV (fileOr D.files n) := by
    unfold fileOr
    cases e : lget D.files n with
    | none => rw [e] at hv; exact fileR_inv hv
    | some f => rw [e] at hv; exact fileR_inv hv
  rw [hrun, this]

/-- find's answer, of a name that may be -/
def findE (D : LD) (n : Nat) : Int := if (lget D.files n).isSome then 0 else 6

set_option maxHeartbeats 1000000 in
set_option maxRecDepth 100000 in
theorem find_any (d M n : Nat) (D : LD) (w : World) (h : DiskAt w d M D) (hn : n < 100000000) :
    Calls Tryz.prog 56 #[.pointer (some ⟨d, 0, none⟩), strV (logName n)] w (Ret (.tuple #[fileV (fileOr D.files n), i64 (findE D n)]) w) := by
  have hl : (logName n).length = 12 := logName_length n
  have hg : Chg [] w (w.alloc (.cells #[.string ⟨#[]⟩, i64 0] 85)) := (Chg.refl [] w).alloc _
  have h1 := h.new_ hg
  have L1 := look_disk h1 n hn
  have c0 : (w.alloc (.cells #[.string ⟨#[]⟩, i64 0] 85)).cell? ⟨d, 0, none⟩ = some (.map (some M)) := h1.blk.cell 0
  have e1 : ((logName n).toArray.size : Int) = 12 := by simp [hl]
  clear h h1 hg
  unfold findE fileOr at *
  cases hx : lget D.files n with
  | none =>
    rw [hx] at L1
    simp only [Option.isSome_none, Option.getD_none] at L1
    simp only [Option.isSome_none, Option.getD_none, Bool.false_eq_true, if_false]
    go_enter Tryz.func56, Tryz.ntmps56
    go_wp2
    go_returns
    exact ⟨rfl, by repeat (first | exact Chg.refl _ _ | apply Chg.alloc | (refine Chg.setCell ?_ (.inr (by simp)) _))⟩
  | some f =>
    rw [hx] at L1
    simp only [Option.isSome_some, Option.getD_some] at L1
    simp only [Option.isSome_some, Option.getD_some, if_true]
    go_enter Tryz.func56, Tryz.ntmps56
    go_wp2
    go_returns
    exact ⟨rfl, by repeat (first | exact Chg.refl _ _ | apply Chg.alloc | (refine Chg.setCell ?_ (.inr (by simp)) _))⟩

/-- open's answer -/
def openF (D : LD) (n : Nat) : LFile := if D.dead then ⟨[], 0⟩ else fileOr D.files n
def openE (D : LD) (n : Nat) : Int := if D.dead then 12 else findE D n
theorem findE_ne (D : LD) (n : Nat) : (findE D n == 1) = false := by unfold findE; split <;> rfl

set_option maxHeartbeats 1000000 in
set_option maxRecDepth 100000 in
theorem open_any (d M n : Nat) (D : LD) (w : World) (h : DiskAt w d M D) (hn : n < 100000000) :
    Calls Tryz.prog 53 #[.pointer (some ⟨d, 0, none⟩), strV (logName n)] w (Ret (.tuple #[fileV (openF D n), i64 (openE D n)]) w) := by
  have hg : Chg [] w (w.alloc (.cells #[.string ⟨#[]⟩, i64 0] 85)) := (Chg.refl [] w).alloc _
  have h1 := h.new_ hg
  have F1 := Lib.hid (find_any d M n D _ h1 hn)
  have H1 := Lib.hid h1
  have HG := Lib.hid hg
  have ene := findE_ne D n
  clear h h1 hg
  unfold openF openE
  generalize findE D n = e at F1 ene ⊢
  generalize fileOr D.files n = f at F1 ⊢
  have e2 : (e != 1) = true := by simpa using ene
  have HX : Hid (Blk (w.alloc (.cells #[.string ⟨#[]⟩, i64 0] 85)) w.heap.size 85 #[.string ⟨#[]⟩, i64 0]) := Blk.new w _ _
  cases hd : D.dead with
  | true =>
    simp only [if_true]
    go_enter Tryz.func53, Tryz.ntmps53
    go_wp2_with fail
    (with_reducible refine F1.out.mono ?_)
    rintro e w1 ⟨rfl, hg1⟩
    have HG1 := Lib.hid (HG.out.trans hg1)
    have hA := (Chg.refl [] w1).alloc (.cells #[strV f.s, i64 (f.sure : Int)] 85)
    have c2 : (w1.alloc (.cells #[strV f.s, i64 (f.sure : Int)] 85)).cell? ⟨d, 2, none⟩ = some (.bool true) := by
      have := ((H1.out.new_ hg1).new_ hA).blk.cell 2
      rw [hd] at this; exact this
    have hX := (HX.out.chg hg1 (by simp)).chg hA (by simp)
    have x0 : (w1.alloc (.cells #[strV f.s, i64 (f.sure : Int)] 85)).cell? ⟨w.heap.size, 0, none⟩ = some (.string ⟨#[]⟩) := hX.cell 0
    have x1 : (w1.alloc (.cells #[strV f.s, i64 (f.sure : Int)] 85)).cell? ⟨w.heap.size, 1, none⟩ = some (i64 0) := hX.cell 1
    have xf0 := hX.frozen 0
    have xf1 := hX.frozen 1
    have HA := Lib.hid hA
    have HXX := Lib.hid hX
    clear hg1 hA hX
    go_wp2_with fail
    refine bodyPost_ret (res_row rfl _ _ w.heap.size 85 #[.string ⟨#[]⟩, i64 0] (0, 0) _ rfl ((HXX.out.set_ 0 _).set_ 1 _) Tryz.underlying85 rfl (by kernel_rfl)) rfl ?_
    exact ⟨rfl, Chg.setCell (Chg.setCell (HG1.out.trans HA.out) (.inr (Nat.le_refl _)) _) (.inr (Nat.le_refl _)) _⟩
  | false =>
    simp only [Bool.false_eq_true, if_false]
    go_enter Tryz.func53, Tryz.ntmps53
    go_wp2_with fail
    (with_reducible refine F1.out.mono ?_)
    rintro e w1 ⟨rfl, hg1⟩
    have HG1 := Lib.hid (HG.out.trans hg1)
    have hA := (Chg.refl [] w1).alloc (.cells #[strV f.s, i64 (f.sure : Int)] 85)
    have c2 : (w1.alloc (.cells #[strV f.s, i64 (f.sure : Int)] 85)).cell? ⟨d, 2, none⟩ = some (.bool false) := by
      have := ((H1.out.new_ hg1).new_ hA).blk.cell 2
      rw [hd] at this; exact this
    have hX := (HX.out.chg hg1 (by simp)).chg hA (by simp)
    have x0 : (w1.alloc (.cells #[strV f.s, i64 (f.sure : Int)] 85)).cell? ⟨w.heap.size, 0, none⟩ = some (.string ⟨#[]⟩) := hX.cell 0
    have x1 : (w1.alloc (.cells #[strV f.s, i64 (f.sure : Int)] 85)).cell? ⟨w.heap.size, 1, none⟩ = some (i64 0) := hX.cell 1
    have xf0 := hX.frozen 0
    have xf1 := hX.frozen 1
    have HA := Lib.hid hA
    have HXX := Lib.hid hX
    clear hg1 hA hX
    go_wp2_with fail
    refine bodyPost_ret (res_row rfl _ _ w.heap.size 85 #[strV f.s, i64 (f.sure : Int)] (0, 0) _ rfl ((HXX.out.set_ 0 _).set_ 1 _) Tryz.underlying85 rfl (by kernel_rfl)) rfl ?_
    exact ⟨rfl, Chg.setCell (Chg.setCell (HG1.out.trans HA.out) (.inr (Nat.le_refl _)) _) (.inr (Nat.le_refl _)) _⟩
end Go.Proofs.YtofnehgjkdcmnaaGreatDoor
