/- A log in memory; the walks of its file and last. -/
import Derived.Test.YtofnehgjkdcmnaaGreatDoorGLgDisk7
import Derived.Test.YtofnehgjkdcmnaaGreatDoorGLgAll
namespace Go.Proofs.YtofnehgjkdcmnaaGreatDoor
open Go.RowKit Hg

/-- the tables that a log's code reads -/
structure Env (T : Nat → Nat) (w : World) : Prop where
  lt : ∀ i, i < 16 → T i < 4294967296
  nib : ∀ i, i < 16 → w.cell? ⟨0, i, none⟩ = some (.int .u32 (T i : Int))
  tab : Lib.TabIs Tryz.prog w "internal/strconv.uint64pow10" .u64 Lib.pow10Tab
  pos : 0 < w.heap.size
theorem glob5 : Tryz.prog.globalNamed "internal/strconv.uint64pow10" = some 5 := by kernel_rfl
theorem Env.chg {T : Nat → Nat} {w w' : World} {S : List Nat} (h : Env T w) (hg : Chg S w w') (h0 : 0 ∉ S) (h5 : 5 ∉ S) : Env T w' := by
  have h9 : 5 < w.heap.size := by
    have := h.tab
    unfold Lib.TabIs World.var? at this
    rw [glob5] at this
    simp only [Option.bind_some] at this
    rcases Nat.lt_or_ge 5 w.heap.size with hl | hl
    · exact hl
    · rw [Array.getElem?_eq_none hl] at this; cases this
  refine ⟨h.lt, fun i hi => by rw [hg.cell (p := ⟨0, i, none⟩) h.pos h0]; exact h.nib i hi, ?_, Nat.lt_of_lt_of_le h.pos hg.size⟩
  have := h.tab
  unfold Lib.TabIs World.var? at this ⊢
  rw [glob5] at this ⊢
  simp only [Option.bind_some] at this ⊢
  rw [hg.block _ h9 h5]
  exact this
theorem Env.new_ {T : Nat → Nat} {w w' : World} (h : Env T w) (hg : Chg [] w w') : Env T w' := h.chg hg (by simp) (by simp)

/-- the block of a row, if it has one -/
def rowOf (v : Value) : List Nat := match v.ownBlock with | some k => [k] | none => []
theorem rowOf_ne {w : World} {base : Nat} {e : TypeId} {size n : Nat} {v : Value} {xs : List Value} (h : w.ownsRow base e size v n xs) {g : Nat} {t : TypeId} {cs : Array Value} {fr : Nat × Nat} (hB : w.heap[g]? = some (.cells cs t fr)) (hne : t ≠ e) : g ∉ rowOf v := by
  rcases h.2 with ⟨rfl, _⟩ | ⟨k, cap, cur, rfl, _, hk, _⟩
  · simp [rowOf, Value.ownBlock]
  · simp only [rowOf, Value.ownBlock, List.mem_singleton]
    rintro rfl
    rw [hB] at hk
    injection hk with hk
    injection hk with _ ht
    exact hne ht

/-- a log of the disk d at block L: its segments' first records, and the next one's number -/
structure LogAt (w : World) (L d : Nat) (v : Value) (firsts : List Nat) (next : Nat) : Prop where
  blk : Blk w L 52 #[.pointer (some ⟨d, 0, none⟩), strV [108, 111, 103], v, i64 (next : Int)]
  row : w.ownsRow 6 3 1 v firsts.length (firsts.map fun n : Nat => i64 (n : Int))
theorem LogAt.chg {w w' : World} {S : List Nat} {L d : Nat} {v : Value} {firsts : List Nat} {next : Nat} (h : LogAt w L d v firsts next) (hg : Chg S w w') (h1 : L ∉ S) (h2 : ∀ k ∈ rowOf v, k ∉ S) : LogAt w' L d v firsts next :=
  ⟨h.blk.chg hg h1, own_chg h.row hg (fun k hk => h2 k (by simp [rowOf, hk]))⟩
theorem LogAt.new_ {w w' : World} {L d : Nat} {v : Value} {firsts : List Nat} {next : Nat} (h : LogAt w L d v firsts next) (hg : Chg [] w w') : LogAt w' L d v firsts next := h.chg hg (by simp) (by simp)

theorem chg_grow (w : World) (k : Nat) (os : Array Obj) : Chg [] w (Go.Sort.grow (w.drewN k) os) :=
  ⟨rfl, rfl, rfl, by rw [Go.Sort.size_grow]; exact Nat.le_add_right _ _, fun i hi _ => Go.Sort.heap_grow_old (w.drewN k) os hi⟩
theorem repeat_zero (k : Nat) : Lib.repeatL [48] k = List.replicate k 48 := by
  induction k with
  | zero => rfl
  | succ k ih => show [48] ++ Lib.repeatL [48] k = _; rw [ih]; rfl

set_option maxHeartbeats 1000000 in
set_option maxRecDepth 100000 in
theorem file_any (L n : Nat) (T : Nat → Nat) (w : World) (hE : Env T w) (hc : w.cell? ⟨L, 1, none⟩ = some (strV [108, 111, 103])) (hn : n < 100000000) :
    Calls Tryz.prog 17 #[.pointer (some ⟨L, 0, none⟩), i64 (n : Int)] w fun e w' => e = .returned (strV (logName n)) ∧ Chg [] w w' := by
  have F1 := Lib.hid (Tryz.strconv_Itoa (n : Int) (by omega) (by omega) w hE.tab)
  have hL := cell_lt hc
  have hil : (Lib.itoa (n : Int)).length ≤ 8 := by
    have := Hg.nDigits_le 7 n hn
    unfold Lib.itoa
    rw [if_neg (by omega)]
    rw [decDigits_digs, digs_length]
    exact this
  have HMADE := Lib.hid (logName_made n hn)
  have HC := Lib.hid hc
  clear hE hc
  go_enter Tryz.func17, Tryz.ntmps17
  go_wp2_with fail
  (with_reducible refine F1.out.mono ?_)
  rintro e w1 ⟨rfl, k, os, rfl⟩
  have hg1 := chg_grow w k os
  have c1 : (Go.Sort.grow (w.drewN k) os).cell? ⟨L, 1, none⟩ = some (strV [108, 111, 103]) := by rw [hg1.cell hL (by simp)]; exact HC.out
  have HL : Hid (L < (Go.Sort.grow (w.drewN k) os).heap.size) := Nat.lt_of_lt_of_le hL hg1.size
  generalize Go.Sort.grow (w.drewN k) os = w1 at hg1 c1 HL ⊢
  generalize Lib.itoa (n : Int) = s at HMADE hil ⊢
  have HG1 := Lib.hid hg1
  clear hg1 F1 HC
  obtain ⟨c, hc⟩ : ∃ c, c = 8 - s.length := ⟨_, rfl⟩
  have HR : Hid (∀ w, Calls Tryz.prog 55 #[.string ⟨#[48]⟩, .int .i64 (c : Int)] w fun e w' => e = .returned (strV (List.replicate c 48)) ∧ Below w.heap.size w w') := fun w => by
    have := Tryz.strings_Repeat ⟨#[48]⟩ c w (by omega) (by show 1 * c ≤ _; omega)
    rw [show (ByteArray.mk #[48]).data.toList = [48] from rfl, repeat_zero] at this
    exact this
  have E1 : IntKind.i64.wrap (8 - (s.length : Int)) = (c : Int) := by rw [wrap_small _ (by omega) (by omega)]; omega
  have E2 : max (0 : Int) (c : Int) = (c : Int) := by omega
  have hc1 : ∀ w, (Op.stringOp .add (ByteArray.mk #[108, 111, 103]) (ByteArray.mk #[46])).run Tryz.prog w = .ok (strV [108, 111, 103, 46]) w := cat_any [108, 111, 103] [46] (by unfold maxLen; decide)
  have hc2 := cat_any [108, 111, 103, 46] (List.replicate c 48) (by simp [maxLen]; omega)
  have hc3 := cat_any ([108, 111, 103, 46] ++ List.replicate c 48) s (by simp [maxLen]; omega)
  have HM : [108, 111, 103, 46] ++ List.replicate c 48 ++ s = logName n := by rw [hc]; exact HMADE.out
  rw [HM] at hc3
  clear hc HMADE HM
  obtain ⟨y, hy⟩ : ∃ y : Bytes, y = [108, 111, 103, 46] ++ List.replicate c 48 := ⟨_, rfl⟩
  rw [← hy] at hc2 hc3
  clear hy
  obtain ⟨z, hz⟩ : ∃ z : Bytes, z = List.replicate c 48 := ⟨_, rfl⟩
  rw [← hz] at hc2 HR
  clear hz
  have Hhil := Lib.hid hil
  have Hhn := Lib.hid hn
  clear hL hil hn
  go_wp2_with fail
  go_region_held3 (fun W => W.cell? ⟨L, 1, none⟩ = some (strV [108, 111, 103])) (go_keep)
    ((go_at_call 55; (with_reducible refine (HR.out _).mono ?_); rintro e w2 ⟨rfl, hg2⟩; have HG2 := Lib.hid hg2; have c2 : w2.cell? ⟨L, 1, none⟩ = some (strV [108, 111, 103]) := (hg2.cell (p := ⟨L, 1, none⟩) (by simpa using HL.out)).trans (by simpa using c1); clear hg2))
  have HG3 : Hid (Chg [] w w2) := HG1.out.drew.trans (Chg.of_below HG2.out)
  clear HG2
  go_wp2_with fail
  go_returns
  exact ⟨rfl, HG3.out⟩

set_option maxHeartbeats 1000000 in
set_option maxRecDepth 100000 in
theorem last_any (L d n next : Nat) (v : Value) (fs : List Nat) (T : Nat → Nat) (w : World) (hE : Env T w) (h : LogAt w L d v (fs ++ [n]) next) (hn : n < 100000000) (hl : fs.length ≤ 1000) :
    Calls Tryz.prog 24 #[.pointer (some ⟨L, 0, none⟩)] w fun e w' => e = .returned (strV (logName n)) ∧ Chg [] w w' := by
  have c1 : w.cell? ⟨L, 1, none⟩ = some (strV [108, 111, 103]) := h.blk.cell 1
  have c2 : w.cell? ⟨L, 2, none⟩ = some v := h.blk.cell 2
  have hr := h.row
  obtain ⟨g, cap, rfl, _, _⟩ := hr.form (by simp)
  have c3 : w.cell? ⟨g, fs.length, none⟩ = some (i64 (n : Int)) := by
    have := hr.cellAt fs.length (by simp)
    rw [this]; simp
  have HL := Lib.hid (show L < w.heap.size from h.blk.lt)
  have HE := Lib.hid hE
  have E1 : IntKind.i64.wrap (((fs ++ [n]).length : Int) - 1) = (fs.length : Int) := by
    rw [List.length_append, List.length_singleton, wrap_small _ (by omega) (by omega)]; omega
  have E0 : (0 : Int) ≤ (fs.length : Int) := by omega
  have E2 : (fs.length : Int) < ((fs ++ [n]).length : Int) := by rw [List.length_append, List.length_singleton]; omega
  have HC := Lib.hid c1
  have F1 : Hid (∀ W, Chg [] w W → Calls Tryz.prog 17 #[.pointer (some ⟨L, 0, none⟩), i64 (n : Int)] W fun e w' => e = .returned (strV (logName n)) ∧ Chg [] W w') := fun W hW => file_any L n T W (hE.new_ hW) (by rw [hW.cell (p := ⟨L, 1, none⟩) HL.out (by simp)]; exact HC.out) hn
  generalize (fs ++ [n]).length = k1 at E1 E2 c2 ⊢
  generalize fs.length = k at E0 E1 E2 c3 hl ⊢
  clear h hr c1 hE hn
  go_enter Tryz.func24, Tryz.ntmps24
  go_wp2_with fail
  refine wp_region_still_tail 13 (by kernel_rfl) (by kernel_rfl) ?_
  simp only [List.take_succ_cons, List.take_zero, List.drop_succ_cons, List.drop_zero]
  repeat (with_reducible refine wpStill_step ?_; intro K hK; go_simp; with_reducible refine hK _ ?_; clear hK K)
  with_reducible refine wpStill_nil ?_
  change wpList _ _ _ _ _ w.drew
  have HC1 : Hid (Chg [] w w.drew) := (Chg.refl [] w).drew
  generalize w.drew = w1 at HC1 ⊢
  clear E1 E2 c2 c3
  go_wp2_with fail
  (with_reducible refine (F1.out _ HC1.out).mono ?_)
  rintro e w2 ⟨rfl, hg2⟩
  have HC2 := Lib.hid (HC1.out.trans hg2)
  clear hg2
  go_wp2_with fail
  go_returns
  exact ⟨rfl, HC2.out⟩
end Go.Proofs.YtofnehgjkdcmnaaGreatDoor

/- A log and its disk in memory; the walk of the log's Sync. -/
namespace Go.Proofs.YtofnehgjkdcmnaaGreatDoor
open Go.RowKit Hg

theorem map_ne_cells {w : World} {M n : Nat} {D : DataW Unit} (h : w.ownsMap Tryz.prog 9 fileR M n D) {g : Nat} {cs : Array Value} {t : TypeId} {fr : Nat × Nat} (hB : w.heap[g]? = some (.cells cs t fr)) : g ≠ M := by
  rintro rfl
  obtain ⟨es, clock, hb, _⟩ := h
  rw [hB] at hb
  cases hb
theorem row_ne_map {w : World} {M m : Nat} {D : DataW Unit} (h : w.ownsMap Tryz.prog 9 fileR M m D) {base : Nat} {e : TypeId} {size n : Nat} {v : Value} {xs : List Value} (hr : w.ownsRow base e size v n xs) : M ∉ rowOf v := by
  rcases hr.2 with ⟨rfl, _⟩ | ⟨k, cap, cur, rfl, _, hk, _⟩
  · simp [rowOf, Value.ownBlock]
  · simp only [rowOf, Value.ownBlock, List.mem_singleton]
    exact fun e => map_ne_cells h hk e.symm
theorem row_lo {w : World} {base : Nat} {e : TypeId} {size n : Nat} {v : Value} {xs : List Value} (hr : w.ownsRow base e size v n xs) {g : Nat} (hg : g < base) : g ∉ rowOf v := by
  rcases hr.2 with ⟨rfl, _⟩ | ⟨k, cap, cur, rfl, hk, _⟩
  · simp [rowOf, Value.ownBlock]
  · simp only [rowOf, Value.ownBlock, List.mem_singleton]; omega

/-- the log at block L, of the disk d, whose files lie in the map M -/
structure WSt (T : Nat → Nat) (w : World) (L d M : Nat) (v : Value) (firsts : List Nat) (next : Nat) (D : LD) : Prop where
  env : Env T w
  log : LogAt w L d v firsts next
  disk : DiskAt w d M D
  lo : 6 ≤ L ∧ 6 ≤ d ∧ 6 ≤ M
section
variable {T : Nat → Nat} {w w' : World} {L d M : Nat} {v : Value} {firsts : List Nat} {next : Nat} {D D' : LD}
theorem WSt.new_ (h : WSt T w L d M v firsts next D) (hg : Chg [] w w') : WSt T w' L d M v firsts next D := ⟨h.env.new_ hg, h.log.new_ hg, h.disk.new_ hg, h.lo⟩
theorem WSt.ne_ (h : WSt T w L d M v firsts next D) : L ≠ d ∧ L ≠ M ∧ L ∉ rowOf v ∧ d ∉ rowOf v ∧ M ∉ rowOf v :=
  ⟨h.log.blk.ne_ h.disk.blk (by decide), map_ne_cells h.disk.map h.log.blk, rowOf_ne h.log.row h.log.blk (by decide), rowOf_ne h.log.row h.disk.blk (by decide), row_ne_map h.disk.map h.log.row⟩
theorem WSt.step (h : WSt T w L d M v firsts next D) (hD : DiskAt w' d M D') (hg : Chg [d, M] w w') : WSt T w' L d M v firsts next D' := by
  have hn := h.ne_
  have hl := h.lo
  refine ⟨h.env.chg hg (by simp; omega) (by simp; omega), h.log.chg hg (by simp; exact ⟨hn.1, hn.2.1⟩) (fun k hk => ?_), hD, hl⟩
  simp only [List.mem_cons, List.not_mem_nil, or_false]
  rintro (rfl | rfl)
  · exact hn.2.2.2.1 hk
  · exact hn.2.2.2.2 hk
theorem WSt.cell0 (h : WSt T w L d M v firsts next D) : w.cell? ⟨L, 0, none⟩ = some (.pointer (some ⟨d, 0, none⟩)) := h.log.blk.cell 0
theorem WSt.cell3 (h : WSt T w L d M v firsts next D) : w.cell? ⟨L, 3, none⟩ = some (i64 (next : Int)) := h.log.blk.cell 3
theorem WSt.last_ {fs : List Nat} {n : Nat} (h : WSt T w L d M v (fs ++ [n]) next D) (hn : n < 100000000) (hl : fs.length ≤ 1000) :
    Calls Tryz.prog 24 #[.pointer (some ⟨L, 0, none⟩)] w fun e w' => e = .returned (strV (logName n)) ∧ WSt T w' L d M v (fs ++ [n]) next D ∧ Chg [] w w' :=
  (last_any L d n next v fs T w h.env h.log hn hl).mono fun _ _ ⟨h1, h2⟩ => ⟨h1, h.new_ h2, h2⟩
theorem WSt.file_ (h : WSt T w L d M v firsts next D) (n : Nat) (hn : n < 100000000) :
    Calls Tryz.prog 17 #[.pointer (some ⟨L, 0, none⟩), i64 (n : Int)] w fun e w' => e = .returned (strV (logName n)) ∧ WSt T w' L d M v firsts next D ∧ Chg [] w w' :=
  (file_any L n T w h.env (h.log.blk.cell 1) hn).mono fun _ _ ⟨h1, h2⟩ => ⟨h1, h.new_ h2, h2⟩
end

/-- a call on the disk that answers c and leaves D' -/
abbrev DCall (f : Nat) (args : Array Value) (d M : Nat) (D : LD) (c : Int) (D' : LD) : Prop :=
  ∀ W, DiskAt W d M D → Calls Tryz.prog f args W fun e w' => e = .returned (i64 c) ∧ DiskAt w' d M D' ∧ Chg [d, M] W w'

set_option maxHeartbeats 1000000 in
set_option maxRecDepth 100000 in
theorem walSync_any (T : Nat → Nat) (w : World) (L d M : Nat) (v : Value) (fs : List Nat) (n next : Nat) (D D' : LD) (c : Int) (h : WSt T w L d M v (fs ++ [n]) next D) (hn : n < 100000000) (hl : fs.length ≤ 1000)
    (hS : DCall 23 #[.pointer (some ⟨d, 0, none⟩), strV (logName n)] d M D c D') :
    Calls Tryz.prog 9 #[.pointer (some ⟨L, 0, none⟩)] w fun e w' => e = .returned (i64 c) ∧ WSt T w' L d M v (fs ++ [n]) next D' ∧ Chg [d, M] w w' := by
  have HS := Lib.hid hS
  have HL := Lib.hid (fun W (h : WSt T W L d M v (fs ++ [n]) next D) => h.last_ hn hl)
  have c0 := h.cell0
  have H0 : Hid (WSt T w.drew L d M v (fs ++ [n]) next D) := h.new_ (Chg.refl [] w).drew
  clear h hS
  go_enter Tryz.func9, Tryz.ntmps9
  go_wp2_with fail
  go_region_held3 (fun W => W.cell? ⟨L, 0, none⟩ = some (.pointer (some ⟨d, 0, none⟩))) (go_keep)
    (first
      | (go_at_call 24; (with_reducible refine (HL.out _ H0.out).mono ?_); rintro e w1 ⟨rfl, hw1, hg1⟩; have c1 := hw1.cell0; have HW1 := Lib.hid hw1; have HG1 := Lib.hid hg1; clear hw1 hg1)
      | (go_at_call 23; (with_reducible refine (HS.out _ HW1.out.disk).mono ?_); rintro e w2 ⟨rfl, hd2, hg2⟩; have HW2 := Lib.hid (HW1.out.step hd2 hg2); have c2 := HW2.out.cell0; have HG2 := Lib.hid hg2; clear hd2 hg2))
  have HG3 : Hid (Chg [d, M] w w2) := (((Chg.refl [] w).drew.trans HG1.out).mono (by simp)).trans HG2.out
  clear HG1 HG2
  go_wp2_with fail
  go_returns
  exact ⟨rfl, HW2.out, HG3.out⟩
end Go.Proofs.YtofnehgjkdcmnaaGreatDoor

/- The walk of a log's lay: into the last segment. -/
namespace Go.Proofs.YtofnehgjkdcmnaaGreatDoor
open Go.RowKit Hg

theorem WSt.frame_ {T : Nat → Nat} {w : World} {L d M : Nat} {v : Value} {firsts : List Nat} {next : Nat} {D : LD} (h : WSt T w L d M v firsts next D) (s : Bytes) (hs : s.length ≤ 65536) :
    Calls Tryz.prog 71 #[strV s] w fun e w' => e = .returned (.tuple #[strV (frm (tlT T) s), i64 0]) ∧ WSt T w' L d M v firsts next D ∧ Chg [] w w' :=
  (frame_any s w T h.env.lt h.env.nib h.env.pos hs).mono fun _ _ ⟨h1, h2⟩ => ⟨h1, h.new_ h2, h2⟩
theorem WSt.size_ {T : Nat → Nat} {w : World} {L d M : Nat} {v : Value} {firsts : List Nat} {next : Nat} {D : LD} (h : WSt T w L d M v firsts next D) (n : Nat) (hn : n < 100000000) :
    Calls Tryz.prog 72 #[.pointer (some ⟨d, 0, none⟩), strV (logName n)] w fun e w' => e = .returned (.tuple #[i64 ((fileOr D.files n).s.length : Int), i64 ((fileOr D.files n).sure : Int), i64 (findE D n)]) ∧ WSt T w' L d M v firsts next D ∧ Chg [] w w' :=
  (size_any d M n D w h.disk hn).mono fun _ _ ⟨h1, h2⟩ => ⟨h1, h.new_ h2, h2⟩
theorem WSt.up {T : Nat → Nat} {w : World} {L d M : Nat} {v : Value} {firsts : List Nat} {next : Nat} {D : LD} (h : WSt T w L d M v firsts next D) {u : Value} (hu : i64 ((next + 1 : Nat) : Int) = u) :
    WSt T (w.setCell ⟨L, 3, none⟩ u) L d M v firsts (next + 1) D ∧ Chg [L] w (w.setCell ⟨L, 3, none⟩ u) := by
  have hn := h.ne_
  have hg : Chg [L] w (w.setCell ⟨L, 3, none⟩ u) := (Chg.refl [L] w).setCell (.inl (by simp)) u
  have hl := h.lo
  refine ⟨⟨h.env.chg hg (by simp; omega) (by simp; omega), ⟨?_, own_chg h.log.row hg (fun k hk => ?_)⟩, h.disk.chg hg (by simpa using Ne.symm hn.1) (by simpa using Ne.symm hn.2.1), hl⟩, hg⟩
  · have := h.log.blk.set_ 3 u
    rw [hu]; exact this
  · simp only [List.mem_singleton]
    rintro rfl
    exact hn.2.2.1 (by simp [rowOf, hk])

set_option maxHeartbeats 1000000 in
set_option maxRecDepth 100000 in
/-- the last segment is not full; the disk takes it -/
theorem lay_a (T : Nat → Nat) (w : World) (L d M : Nat) (v : Value) (fs : List Nat) (n next : Nat) (s : Bytes) (D D' : LD) (h : WSt T w L d M v (fs ++ [n]) next D) (hn : n < 100000000) (hnx : next < 100000000) (hl : fs.length ≤ 1000) (hs : s.length ≤ 65536)
    (hsz : (fileOr D.files n).s.length < 4096)
    (hA : DCall 16 #[.pointer (some ⟨d, 0, none⟩), strV (logName n), strV (frm (tlT T) s)] d M D 0 D') :
    Calls Tryz.prog 36 #[.pointer (some ⟨L, 0, none⟩), strV s] w fun e w' => e = .returned (i64 0) ∧ WSt T w' L d M v (fs ++ [n]) (next + 1) D' ∧ Chg [L, d, M] w w' := by
  have HA := Lib.hid hA
  have HL := Lib.hid (fun W (h : WSt T W L d M v (fs ++ [n]) next D) => h.last_ hn hl)
  have HZ := Lib.hid (fun W (h : WSt T W L d M v (fs ++ [n]) next D) => h.size_ n hn)
  have HF := Lib.hid (h.frame_ s hs)
  have hz : ((fileOr D.files n).s.length : Int) < 4096 := by omega
  generalize (fileOr D.files n).s.length = z at hz HZ
  generalize ((fileOr D.files n).sure : Int) = z1 at HZ
  generalize findE D n = z2 at HZ
  clear h hA hsz
  go_enter Tryz.func36, Tryz.ntmps36
  go_wp2_with fail
  (with_reducible refine HF.out.mono ?_)
  rintro e w1 ⟨rfl, hw1, hg1⟩
  have HG1 := Lib.hid hg1
  have c0 := hw1.cell0
  have H0 : Hid (WSt T w1.drew L d M v (fs ++ [n]) next D) := hw1.new_ (Chg.refl [] w1).drew
  clear hg1 hw1 HF
  go_wp2_with fail
  go_region_held3 (fun W => W.cell? ⟨L, 0, none⟩ = some (.pointer (some ⟨d, 0, none⟩))) (go_keep)
    (first
      | (go_at_call 24; (with_reducible refine (HL.out _ H0.out).mono ?_); rintro e w2 ⟨rfl, hw2, hg2⟩; have c2 := hw2.cell0; have HW2 := Lib.hid hw2; have HG2 := Lib.hid hg2; clear hw2 hg2)
      | (go_at_call 72; (with_reducible refine (HZ.out _ HW2.out).mono ?_); rintro e w3 ⟨rfl, hw3, hg3⟩; have c3 := hw3.cell0; have HW3 := Lib.hid hw3; have HG3 := Lib.hid hg3; clear hw3 hg3))
  have HG4 : Hid (Chg [] w w3) := ((HG1.out.drew.trans HG2.out).trans HG3.out)
  clear H0 HG1 HG2 HG3 HW2 c0 c2 HZ
  have H3 : Hid (WSt T w3.drew L d M v (fs ++ [n]) next D) := HW3.out.new_ (Chg.refl [] w3).drew
  go_wp2_with fail
  go_region_held3 (fun W => W.cell? ⟨L, 0, none⟩ = some (.pointer (some ⟨d, 0, none⟩))) (go_keep)
    (first
      | (go_at_call 24; (with_reducible refine (HL.out _ H3.out).mono ?_); rintro e w4 ⟨rfl, hw4, hg4⟩; have c4 := hw4.cell0; have HW4 := Lib.hid hw4; have HG5 := Lib.hid hg4; clear hw4 hg4)
      | (go_at_call 16; (with_reducible refine (HA.out _ HW4.out.disk).mono ?_); rintro e w5 ⟨rfl, hd5, hg5⟩; have HW5 := Lib.hid (HW4.out.step hd5 hg5); have c5 := HW5.out.cell0; have HG6 := Lib.hid hg5; clear hd5 hg5))
  have HG7 : Hid (Chg [L, d, M] w w5) := ((HG4.out.drew.trans HG5.out).mono (by simp)).trans (HG6.out.mono (by intro k _ hk; simp at hk ⊢; exact .inr hk))
  clear HG4 HG5 HG6 HW4 H3 c3 c4 c5 HW3 HL HA
  have c3 := HW5.out.cell3
  have f3 := HW5.out.log.blk.frozen 3
  have E1 : IntKind.i64.wrap ((next : Int) + 1) = (next : Int) + 1 := by rw [wrap_small _ (by omega) (by omega)]
  go_wp2_with fail
  go_returns
  have hu := HW5.out.up (u := i64 ((next : Int) + 1)) (by rfl)
  exact ⟨rfl, hu.1, HG7.out.trans (hu.2.mono (by intro k _ hk; simp at hk ⊢; exact .inl hk))⟩

set_option maxHeartbeats 1000000 in
set_option maxRecDepth 100000 in
/-- .. and does not take it -/
theorem lay_aE (T : Nat → Nat) (w : World) (L d M : Nat) (v : Value) (fs : List Nat) (n next : Nat) (s : Bytes) (D D' : LD) (c : Int) (h : WSt T w L d M v (fs ++ [n]) next D) (hn : n < 100000000) (hnx : next < 100000000) (hl : fs.length ≤ 1000) (hs : s.length ≤ 65536)
    (hsz : (fileOr D.files n).s.length < 4096)
    (hA : DCall 16 #[.pointer (some ⟨d, 0, none⟩), strV (logName n), strV (frm (tlT T) s)] d M D c D') (hc : (c == 0) = false) :
    Calls Tryz.prog 36 #[.pointer (some ⟨L, 0, none⟩), strV s] w fun e w' => e = .returned (i64 c) ∧ WSt T w' L d M v (fs ++ [n]) next D' ∧ Chg [L, d, M] w w' := by
  have HA := Lib.hid hA
  have HL := Lib.hid (fun W (h : WSt T W L d M v (fs ++ [n]) next D) => h.last_ hn hl)
  have HZ := Lib.hid (fun W (h : WSt T W L d M v (fs ++ [n]) next D) => h.size_ n hn)
  have HF := Lib.hid (h.frame_ s hs)
  have hz : ((fileOr D.files n).s.length : Int) < 4096 := by omega
  generalize (fileOr D.files n).s.length = z at hz HZ
  generalize ((fileOr D.files n).sure : Int) = z1 at HZ
  generalize findE D n = z2 at HZ
  clear h hA hsz
  go_enter Tryz.func36, Tryz.ntmps36
  go_wp2_with fail
  (with_reducible refine HF.out.mono ?_)
  rintro e w1 ⟨rfl, hw1, hg1⟩
  have HG1 := Lib.hid hg1
  have c0 := hw1.cell0
  have H0 : Hid (WSt T w1.drew L d M v (fs ++ [n]) next D) := hw1.new_ (Chg.refl [] w1).drew
  clear hg1 hw1 HF
  go_wp2_with fail
  go_region_held3 (fun W => W.cell? ⟨L, 0, none⟩ = some (.pointer (some ⟨d, 0, none⟩))) (go_keep)
    (first
      | (go_at_call 24; (with_reducible refine (HL.out _ H0.out).mono ?_); rintro e w2 ⟨rfl, hw2, hg2⟩; have c2 := hw2.cell0; have HW2 := Lib.hid hw2; have HG2 := Lib.hid hg2; clear hw2 hg2)
      | (go_at_call 72; (with_reducible refine (HZ.out _ HW2.out).mono ?_); rintro e w3 ⟨rfl, hw3, hg3⟩; have c3 := hw3.cell0; have HW3 := Lib.hid hw3; have HG3 := Lib.hid hg3; clear hw3 hg3))
  have HG4 : Hid (Chg [] w w3) := ((HG1.out.drew.trans HG2.out).trans HG3.out)
  clear H0 HG1 HG2 HG3 HW2 c0 c2 HZ
  have H3 : Hid (WSt T w3.drew L d M v (fs ++ [n]) next D) := HW3.out.new_ (Chg.refl [] w3).drew
  go_wp2_with fail
  go_region_held3 (fun W => W.cell? ⟨L, 0, none⟩ = some (.pointer (some ⟨d, 0, none⟩))) (go_keep)
    (first
      | (go_at_call 24; (with_reducible refine (HL.out _ H3.out).mono ?_); rintro e w4 ⟨rfl, hw4, hg4⟩; have c4 := hw4.cell0; have HW4 := Lib.hid hw4; have HG5 := Lib.hid hg4; clear hw4 hg4)
      | (go_at_call 16; (with_reducible refine (HA.out _ HW4.out.disk).mono ?_); rintro e w5 ⟨rfl, hd5, hg5⟩; have HW5 := Lib.hid (HW4.out.step hd5 hg5); have c5 := HW5.out.cell0; have HG6 := Lib.hid hg5; clear hd5 hg5))
  have HG7 : Hid (Chg [L, d, M] w w5) := ((HG4.out.drew.trans HG5.out).mono (by simp)).trans (HG6.out.mono (by intro k _ hk; simp at hk ⊢; exact .inr hk))
  clear HG4 HG5 HG6 HW4 H3 c3 c4 c5 HW3 HL HA
  have hc2 : (c != 0) = true := by rw [bne, hc]; rfl
  go_wp2_with fail
  go_returns
  exact ⟨rfl, HW5.out, HG7.out⟩
end Go.Proofs.YtofnehgjkdcmnaaGreatDoor

/- The walk of a log's lay: into a new segment. -/
namespace Go.Proofs.YtofnehgjkdcmnaaGreatDoor
open Go.RowKit Hg

theorem infoInt : (Tryz.prog.info? 3).map (fun i => (i.zero, i.size, i.bytes)) = some (some (.int .i64 0), 1, 8) := by kernel_rfl
/-- a load that is not to be taken first -/
def ldOp2 (t : TypeId) (x : Operand) : Op := .load t x
theorem step_append_row {P : Program} {w : World} {ops : Array Oper} {o : Oper} {a : Act} {K : Act → World → Prop} {Q : Exit → Act → World → Prop} {E : Prop} (hgd : o.guard = none) (s x : Operand) (t : TypeId)
    (ho : o.op = .call { callee := .builtin .append, args := #[s, x], argTypes := #[t, t] })
    (base : Nat) (e : TypeId) (i : TypeInfo) (z : Value) (size bytes : Nat) (ht : P.underlying t = some (.slice e)) (hi : P.info? e = some i) (hz : i.zero = some z)
    (hsize : i.size = size) (hby : i.bytes = bytes) (hzs : z.cells.size = size) (hsz : 0 < size)
    (v : Value) (n : Nat) (xs : List Value) (hs : a.eval s = v) (hown : w.ownsRow base e size v n xs)
    (ad : Addr) (m c : Nat) (news : List Value) (hx : a.eval x = .slice (some ad) m c) (hl : news.length = m * size) (hnews : ∀ j u, news[j]? = some u → w.cell? (ad.add j) = some u) (h1 : ∀ u ∈ news, u.oneCell' = true)
    (h63 : n + m ≤ maxLen) (hbytes : (n + m) * bytes ≤ 140737488355328) (hbase : base ≤ w.heap.size)
    (h : ∀ v' w', w'.ownsRow base e size v' (n + m) (xs ++ news) → w.grownBy w' v.ownBlock → (v'.ownBlock = v.ownBlock ∨ v'.ownBlock = some w.heap.size) → K (a.put o.dst v') w') :
    if Region.wanted o (yielded ops a.tmps) = true then Oper.wp P o a w K Q else E := by
  have hw : Region.wanted o (yielded ops a.tmps) = true := by simp [Region.wanted, hgd]
  rw [if_pos hw]
  obtain ⟨v', w', hr, h2, h3, _, h5⟩ := run_append_own_at (P := P) w base t o.type e i z size bytes ht hi hz hsize hby hzs hsz v n xs hown ad m c news hl hnews h1 h63 hbytes hbase
  unfold Oper.wp execOp
  simp only [ho, resolve, invoke, builtin, Sem.run_bind, Sem.run_pure, Result.andThen_ok, List.map_toArray, List.map_cons, List.map_nil, hs, hx, hr]
  exact h v' w' h2 h3 h5

theorem row_form {w : World} {base : Nat} {e : TypeId} {size n : Nat} {v : Value} {xs : List Value} (h : w.ownsRow base e size v n xs) : ∃ B c, v = .slice B n c := by
  rcases h.2 with ⟨rfl, h0⟩ | ⟨g, cap, cur, rfl, _⟩
  · exact ⟨none, 0, by rw [h0]⟩
  · exact ⟨_, _, rfl⟩
theorem row_at {w : World} {v v2 : Value} {o : Obj} (h : v2.ownBlock = v.ownBlock ∨ v2.ownBlock = some (w.alloc o).drew.heap.size) : ∀ q ∈ rowOf v2, q ∈ rowOf v ∨ w.heap.size ≤ q := fun q hq => by
  unfold rowOf at hq ⊢
  rcases h with e | e
  · rw [e] at hq; exact .inl hq
  · rw [e] at hq
    simp only [List.mem_singleton] at hq
    refine .inr ?_
    rw [hq]
    show w.heap.size ≤ (w.alloc o).heap.size
    simp
theorem WSt.grown {T : Nat → Nat} {w w7 : World} {L d M : Nat} {v v2 : Value} {firsts : List Nat} {n next : Nat} {D : LD} (h : WSt T w L d M v firsts next D) (o : Obj)
    (hown : w7.ownsRow 6 3 1 v2 (firsts.length + 1) ((firsts.map fun n : Nat => i64 (n : Int)) ++ [i64 (n : Int)])) (hgrow : (w.alloc o).drew.grownBy w7 v.ownBlock) :
    WSt T (w7.setCell ⟨L, 2, none⟩ v2) L d M v2 (firsts ++ [n]) next D ∧ Chg (L :: rowOf v) w (w7.setCell ⟨L, 2, none⟩ v2) ∧ w7.cell? ⟨L, 3, none⟩ = some (i64 (next : Int)) ∧ w7.cell? ⟨L, 2, none⟩ = some v ∧ w7.cell? ⟨L, 0, none⟩ = some (.pointer (some ⟨d, 0, none⟩)) ∧ w7.frozen? ⟨L, 2, none⟩ = false ∧ w7.frozen? ⟨L, 3, none⟩ = false := by
  have hne := h.ne_
  have hlo := h.lo
  have hg1 : Chg (rowOf v) w w7 := (((Chg.refl (rowOf v) w).alloc o).drew).then_ (Chg.of_grown (S := rowOf v) hgrow (fun q e => .inl (by simp [rowOf, e]))) (fun i _ hm => hm)
  have hB7 := h.log.blk.chg hg1 hne.2.2.1
  have hg2 : Chg [L] w7 (w7.setCell ⟨L, 2, none⟩ v2) := (Chg.refl [L] w7).setCell (.inl (by simp)) _
  have hg : Chg (L :: rowOf v) w (w7.setCell ⟨L, 2, none⟩ v2) := (hg1.mono (by intro k _ hk; exact List.mem_cons_of_mem _ hk)).trans (hg2.mono (by intro k _ hk; simp at hk; simp [hk]))
  have hLv : L ∉ rowOf v2 := rowOf_ne hown hB7 (by decide)
  refine ⟨⟨h.env.chg hg ?_ ?_, ⟨hB7.set_ 2 v2, ?_⟩, h.disk.chg hg ?_ ?_, hlo⟩, hg, hB7.cell 3, hB7.cell 2, hB7.cell 0, hB7.frozen 2, hB7.frozen 3⟩
  · simp only [List.mem_cons, not_or]; exact ⟨by omega, row_lo h.log.row (by decide)⟩
  · simp only [List.mem_cons, not_or]; exact ⟨by omega, row_lo h.log.row (by decide)⟩
  · have := own_chg hown hg2 (fun k hk => by simp only [List.mem_singleton]; rintro rfl; exact hLv (by simp [rowOf, hk]))
    simpa using this
  · simp only [List.mem_cons, not_or]; exact ⟨Ne.symm hne.1, hne.2.2.2.1⟩
  · simp only [List.mem_cons, not_or]; exact ⟨Ne.symm hne.2.1, hne.2.2.2.2⟩

set_option maxHeartbeats 1000000 in
set_option maxRecDepth 100000 in
/-- the last segment is full; the disk takes a new one -/
theorem lay_b (T : Nat → Nat) (w : World) (L d M : Nat) (v : Value) (fs : List Nat) (n next : Nat) (s : Bytes) (D D1 D2 : LD) (c1 : Int) (h : WSt T w L d M v (fs ++ [n]) next D) (hn : n < 100000000) (hnx : next < 100000000) (hl : fs.length ≤ 1000) (hs : s.length ≤ 65536)
    (hsz : 4096 ≤ (fileOr D.files n).s.length)
    (hS : DCall 23 #[.pointer (some ⟨d, 0, none⟩), strV (logName n)] d M D c1 D1)
    (hA : DCall 16 #[.pointer (some ⟨d, 0, none⟩), strV (logName next), strV (frm (tlT T) s)] d M D1 0 D2) :
    Calls Tryz.prog 36 #[.pointer (some ⟨L, 0, none⟩), strV s] w fun e w' => ∃ v', e = .returned (i64 0) ∧ WSt T w' L d M v' (fs ++ [n] ++ [next]) (next + 1) D2 ∧ Chg (L :: d :: M :: rowOf v) w w' ∧ ∀ q ∈ rowOf v', q ∈ rowOf v ∨ w.heap.size ≤ q := by
  obtain ⟨i0, hi, hz0, hz1, hz2⟩ := info_parts infoInt
  have HS := Lib.hid hS
  have HA := Lib.hid hA
  have HL := Lib.hid (fun W (h : WSt T W L d M v (fs ++ [n]) next D) => h.last_ hn hl)
  have HFI := Lib.hid (fun W (h : WSt T W L d M v (fs ++ [n]) next D1) => h.file_ next hnx)
  have HZ := Lib.hid (fun W (h : WSt T W L d M v (fs ++ [n]) next D) => h.size_ n hn)
  have HF := Lib.hid (h.frame_ s hs)
  have hz : ¬ ((fileOr D.files n).s.length : Int) < 4096 := by omega
  have hmx : ¬ ((99999999 : Int) < (next : Int)) := by omega
  generalize (fileOr D.files n).s.length = z at hz HZ
  generalize ((fileOr D.files n).sure : Int) = z1 at HZ
  generalize findE D n = z2 at HZ
  clear h hA hsz hS
  go_enter Tryz.func36, Tryz.ntmps36
  go_wp2_with fail
  (with_reducible refine HF.out.mono ?_)
  rintro e w1 ⟨rfl, hw1, hg1⟩
  have HG1 := Lib.hid hg1
  have c0 := hw1.cell0
  have H0 : Hid (WSt T w1.drew L d M v (fs ++ [n]) next D) := hw1.new_ (Chg.refl [] w1).drew
  clear hg1 hw1 HF
  go_wp2_with fail
  go_region_held3 (fun W => W.cell? ⟨L, 0, none⟩ = some (.pointer (some ⟨d, 0, none⟩))) (go_keep)
    (first
      | (go_at_call 24; (with_reducible refine (HL.out _ H0.out).mono ?_); rintro e w2 ⟨rfl, hw2, hg2⟩; have c2 := hw2.cell0; have HW2 := Lib.hid hw2; have HG2 := Lib.hid hg2; clear hw2 hg2)
      | (go_at_call 72; (with_reducible refine (HZ.out _ HW2.out).mono ?_); rintro e w3 ⟨rfl, hw3, hg3⟩; have c3 := hw3.cell0; have HW3 := Lib.hid hw3; have HG3 := Lib.hid hg3; clear hw3 hg3))
  have HG4 : Hid (Chg [] w w3) := ((HG1.out.drew.trans HG2.out).trans HG3.out)
  clear H0 HG1 HG2 HG3 HW2 c0 c2 HZ
  have H3 : Hid (WSt T w3.drew L d M v (fs ++ [n]) next D) := HW3.out.new_ (Chg.refl [] w3).drew
  have c33 := HW3.out.cell3
  go_wp2_with fail
  go_region_held3 (fun W => W.cell? ⟨L, 0, none⟩ = some (.pointer (some ⟨d, 0, none⟩))) (go_keep)
    (first
      | (go_at_call 24; (with_reducible refine (HL.out _ H3.out).mono ?_); rintro e w4 ⟨rfl, hw4, hg4⟩; have c4 := hw4.cell0; have HW4 := Lib.hid hw4; have HG5 := Lib.hid hg4; clear hw4 hg4)
      | (go_at_call 23; (with_reducible refine (HS.out _ HW4.out.disk).mono ?_); rintro e w5 ⟨rfl, hd5, hg5⟩; have HW5 := Lib.hid (HW4.out.step hd5 hg5); have c5 := HW5.out.cell0; have c53 := HW5.out.cell3; have HG6 := Lib.hid hg5; clear hd5 hg5))
  have HG7 : Hid (Chg [d, M] w w5) := ((HG4.out.drew.trans HG5.out).mono (by simp)).trans HG6.out
  clear HG4 HG5 HG6 HW4 H3 c3 c4 HW3 HL HS c33
  have H5 : Hid (WSt T w5.drew L d M v (fs ++ [n]) next D1) := HW5.out.new_ (Chg.refl [] w5).drew
  go_wp2_with fail
  go_region_held3 (fun W => W.cell? ⟨L, 0, none⟩ = some (.pointer (some ⟨d, 0, none⟩)) ∧ W.cell? ⟨L, 3, none⟩ = some (i64 (next : Int))) (go_keep)
    (first
      | (go_at_call 17; (with_reducible refine (HFI.out _ H5.out).mono ?_); rintro e w6 ⟨rfl, hw6, hg6⟩; have c6 := hw6.cell0; have c63 := hw6.cell3; have HW6 := Lib.hid hw6; have HG8 := Lib.hid hg6; clear hw6 hg6)
      | (go_at_call 16; (with_reducible refine (HA.out _ HW6.out.disk).mono ?_); rintro e w7 ⟨rfl, hd7, hg7⟩; have HW7 := Lib.hid (HW6.out.step hd7 hg7); have c7 := HW7.out.cell0; have c73 := HW7.out.cell3; have HG9 := Lib.hid hg7; clear hd7 hg7))
  have HG10 : Hid (Chg [d, M] w w7) := (HG7.out.drew.trans (HG8.out.mono (by simp))).trans HG9.out
  clear HG7 HG8 HG9 HW6 HW5 H5 c5 c53 c6 c63 HA HFI
  go_wp2_with fail
  have hrow := HW7.out.log.row
  have c72 : w7.cell? ⟨L, 2, none⟩ = some v := HW7.out.log.blk.cell 2
  have c722 := fun o => ((Chg.refl [] w7).alloc o).cell (p := ⟨L, 2, none⟩) HW7.out.log.blk.lt (by simp)
  have HGR := Lib.hid (fun (v2 : Value) (w8 : World) (o : Obj) => HW7.out.grown (w7 := w8) (v2 := v2) (n := next) o)
  have h6 : 6 ≤ w7.heap.size := by have := HW7.out.lo.1; have := HW7.out.log.blk.lt; omega
  have hlen : (fs ++ [n]).length = fs.length + 1 := by simp
  rw [hlen] at hrow
  have HLEN := Lib.hid hlen
  clear hlen
  have HROW := Lib.hid hrow
  clear hrow
  rw [show Op.load 50 (Operand.tmp 78) = ldOp2 50 (Operand.tmp 78) from rfl]
  have hX : ∀ t x, ldOp2 t x = Op.load t x := fun _ _ => rfl
  go_region_held3 (fun W => W.cell? ⟨L, 3, none⟩ = some (i64 (next : Int))) (go_keep)
    ((refine step_append_row (by rfl) (.tmp 79) (.tmp 84) 50 rfl 6 3 i0 _ 1 8 Tryz.underlying50 hi hz0 hz1 hz2 rfl (by decide) v (fs.length + 1) ((fs ++ [n]).map fun n : Nat => i64 (n : Int)) rfl ((HROW.out.alloc _).drew) ⟨w7.heap.size, 0, none⟩ 1 1 [i64 (next : Int)] rfl rfl (World.news_of_block (w := w7.alloc (.cells #[i64 (next : Int)] 3)) (Blk.new w7 3 #[i64 (next : Int)])) (by simp [Value.oneCell']) (by unfold maxLen; omega) (by omega) (by simp; omega) ?_; intro v2 w8 hown2 hgrow hat; have HQ := Lib.hid (HGR.out v2 w8 _ (by rw [HLEN.out]; exact hown2) hgrow); obtain ⟨B2, k2, rfl⟩ := row_form hown2; have q3 := HQ.out.2.2.1; have q2 := HQ.out.2.2.2.1; have q5 := HQ.out.2.2.2.2.2.1; have q6 := HQ.out.1.log.blk.cell 3; have q7 := HQ.out.1.log.blk.frozen 3; have HAT : Hid (∀ q ∈ rowOf (.slice B2 (fs.length + 1 + 1) k2), q ∈ rowOf v ∨ w7.heap.size ≤ q) := row_at hat; simp only [List.getElem?_toArray, List.getElem?_cons_succ, List.getElem?_cons_zero] at q6; clear hown2 hgrow hat))
  all_goals (
    have HW9 := Lib.hid HQ.out.1
    have HG11 : Hid (Chg (L :: d :: M :: rowOf v) w _) := (HG10.out.mono (by intro k _ hk; simp at hk ⊢; rcases hk with e | e <;> simp [e])).trans (HQ.out.2.1.mono (by intro k _ hk; simp at hk ⊢; rcases hk with e | e <;> simp [e]))
    clear HQ q2 q3 q5 HGR HROW
    generalize w8.setCell ⟨L, 2, none⟩ (.slice B2 (fs.length + 1 + 1) k2) = w9 at HW9 HG11 q6 q7 ⊢
    clear c7 c73 c72 c722 hX
    have E1 : IntKind.i64.wrap ((next : Int) + 1) = (next : Int) + 1 := by rw [wrap_small _ (by omega) (by omega)]
    go_wp2_with fail
    go_returns
    have hu := HW9.out.up (u := i64 ((next : Int) + 1)) (by rfl)
    exact ⟨_, rfl, hu.1, HG11.out.trans (hu.2.mono (by intro k _ hk; simp at hk ⊢; exact .inl hk)), fun q hq => (HAT.out q hq).imp id (fun h => Nat.le_trans HG10.out.size h)⟩)

set_option maxHeartbeats 1000000 in
set_option maxRecDepth 100000 in
/-- .. and takes no new one -/
theorem lay_bE (T : Nat → Nat) (w : World) (L d M : Nat) (v : Value) (fs : List Nat) (n next : Nat) (s : Bytes) (D D1 D2 : LD) (c1 c : Int) (h : WSt T w L d M v (fs ++ [n]) next D) (hn : n < 100000000) (hnx : next < 100000000) (hl : fs.length ≤ 1000) (hs : s.length ≤ 65536)
    (hsz : 4096 ≤ (fileOr D.files n).s.length)
    (hS : DCall 23 #[.pointer (some ⟨d, 0, none⟩), strV (logName n)] d M D c1 D1)
    (hA : DCall 16 #[.pointer (some ⟨d, 0, none⟩), strV (logName next), strV (frm (tlT T) s)] d M D1 c D2) (hc : (c == 0) = false) :
    Calls Tryz.prog 36 #[.pointer (some ⟨L, 0, none⟩), strV s] w fun e w' => e = .returned (i64 c) ∧ WSt T w' L d M v (fs ++ [n]) next D2 ∧ Chg [d, M] w w' := by
  have HS := Lib.hid hS
  have HA := Lib.hid hA
  have HL := Lib.hid (fun W (h : WSt T W L d M v (fs ++ [n]) next D) => h.last_ hn hl)
  have HFI := Lib.hid (fun W (h : WSt T W L d M v (fs ++ [n]) next D1) => h.file_ next hnx)
  have HZ := Lib.hid (fun W (h : WSt T W L d M v (fs ++ [n]) next D) => h.size_ n hn)
  have HF := Lib.hid (h.frame_ s hs)
  have hz : ¬ ((fileOr D.files n).s.length : Int) < 4096 := by omega
  have hmx : ¬ ((99999999 : Int) < (next : Int)) := by omega
  generalize (fileOr D.files n).s.length = z at hz HZ
  generalize ((fileOr D.files n).sure : Int) = z1 at HZ
  generalize findE D n = z2 at HZ
  clear h hA hsz hS
  go_enter Tryz.func36, Tryz.ntmps36
  go_wp2_with fail
  (with_reducible refine HF.out.mono ?_)
  rintro e w1 ⟨rfl, hw1, hg1⟩
  have HG1 := Lib.hid hg1
  have c0 := hw1.cell0
  have H0 : Hid (WSt T w1.drew L d M v (fs ++ [n]) next D) := hw1.new_ (Chg.refl [] w1).drew
  clear hg1 hw1 HF
  go_wp2_with fail
  go_region_held3 (fun W => W.cell? ⟨L, 0, none⟩ = some (.pointer (some ⟨d, 0, none⟩))) (go_keep)
    (first
      | (go_at_call 24; (with_reducible refine (HL.out _ H0.out).mono ?_); rintro e w2 ⟨rfl, hw2, hg2⟩; have c2 := hw2.cell0; have HW2 := Lib.hid hw2; have HG2 := Lib.hid hg2; clear hw2 hg2)
      | (go_at_call 72; (with_reducible refine (HZ.out _ HW2.out).mono ?_); rintro e w3 ⟨rfl, hw3, hg3⟩; have c3 := hw3.cell0; have HW3 := Lib.hid hw3; have HG3 := Lib.hid hg3; clear hw3 hg3))
  have HG4 : Hid (Chg [] w w3) := ((HG1.out.drew.trans HG2.out).trans HG3.out)
  clear H0 HG1 HG2 HG3 HW2 c0 c2 HZ
  have H3 : Hid (WSt T w3.drew L d M v (fs ++ [n]) next D) := HW3.out.new_ (Chg.refl [] w3).drew
  have c33 := HW3.out.cell3
  go_wp2_with fail
  go_region_held3 (fun W => W.cell? ⟨L, 0, none⟩ = some (.pointer (some ⟨d, 0, none⟩))) (go_keep)
    (first
      | (go_at_call 24; (with_reducible refine (HL.out _ H3.out).mono ?_); rintro e w4 ⟨rfl, hw4, hg4⟩; have c4 := hw4.cell0; have HW4 := Lib.hid hw4; have HG5 := Lib.hid hg4; clear hw4 hg4)
      | (go_at_call 23; (with_reducible refine (HS.out _ HW4.out.disk).mono ?_); rintro e w5 ⟨rfl, hd5, hg5⟩; have HW5 := Lib.hid (HW4.out.step hd5 hg5); have c5 := HW5.out.cell0; have c53 := HW5.out.cell3; have HG6 := Lib.hid hg5; clear hd5 hg5))
  have HG7 : Hid (Chg [d, M] w w5) := ((HG4.out.drew.trans HG5.out).mono (by simp)).trans HG6.out
  clear HG4 HG5 HG6 HW4 H3 c3 c4 HW3 HL HS c33
  have H5 : Hid (WSt T w5.drew L d M v (fs ++ [n]) next D1) := HW5.out.new_ (Chg.refl [] w5).drew
  go_wp2_with fail
  go_region_held3 (fun W => W.cell? ⟨L, 0, none⟩ = some (.pointer (some ⟨d, 0, none⟩)) ∧ W.cell? ⟨L, 3, none⟩ = some (i64 (next : Int))) (go_keep)
    (first
      | (go_at_call 17; (with_reducible refine (HFI.out _ H5.out).mono ?_); rintro e w6 ⟨rfl, hw6, hg6⟩; have c6 := hw6.cell0; have c63 := hw6.cell3; have HW6 := Lib.hid hw6; have HG8 := Lib.hid hg6; clear hw6 hg6)
      | (go_at_call 16; (with_reducible refine (HA.out _ HW6.out.disk).mono ?_); rintro e w7 ⟨rfl, hd7, hg7⟩; have HW7 := Lib.hid (HW6.out.step hd7 hg7); have c7 := HW7.out.cell0; have c73 := HW7.out.cell3; have HG9 := Lib.hid hg7; clear hd7 hg7))
  have HG10 : Hid (Chg [d, M] w w7) := (HG7.out.drew.trans (HG8.out.mono (by simp))).trans HG9.out
  clear HG7 HG8 HG9 HW6 HW5 H5 c5 c53 c6 c63 HA HFI
  have hc2 : (c != 0) = true := by rw [bne, hc]; rfl
  go_wp2_with fail
  go_returns
  exact ⟨rfl, HW7.out, HG10.out⟩
end Go.Proofs.YtofnehgjkdcmnaaGreatDoor

/- The walk of a log's Append of one record. -/
namespace Go.Proofs.YtofnehgjkdcmnaaGreatDoor
open Go.RowKit Hg

set_option maxHeartbeats 1000000 in
set_option maxRecDepth 100000 in
theorem long_any (s : Bytes) (w : World) (hs : s.length ≤ 65536) :
    Calls Tryz.prog 35 #[strV s] w fun e w' => e = .returned (.bool false) ∧ w = w' := by
  have h : ¬ (65536 : Int) < (s.length : Int) := by omega
  go_enter Tryz.func35, Tryz.ntmps35
  go_wp2_with fail
  go_ret
  exact ⟨rfl, rfl⟩
set_option maxHeartbeats 1000000 in
set_option maxRecDepth 100000 in
theorem index_any (B cap : Nat) (s : Bytes) (w : World) (hc : w.cell? ⟨B, 0, none⟩ = some (strV s)) (hs : s.length ≤ 65536) :
    Calls Tryz.prog 70 #[.slice (some ⟨B, 0, none⟩) 1 cap, .func (.func 35) #[] #[]] w fun e w' => e = .returned (i64 (-1)) ∧ w = w' := by
  have HL := Lib.hid (fun w => long_any s w hs)
  go_enter Tryz.func70, Tryz.ntmps70
  go_wp2_with fail
  refine wp_loop_rounds 2 ?_
  rw [rounds_succ]
  go_wp2_with fail
  (with_reducible refine (HL.out _).mono ?_)
  rintro e w1 ⟨rfl, rfl⟩
  go_wp2_with fail
  rw [rounds_succ]
  go_wp2_with fail
  go_ret
  exact ⟨rfl, rfl⟩
set_option maxHeartbeats 1000000 in
set_option maxRecDepth 100000 in
theorem contains_any (B cap : Nat) (s : Bytes) (w : World) (hc : w.cell? ⟨B, 0, none⟩ = some (strV s)) (hs : s.length ≤ 65536) :
    Calls Tryz.prog 34 #[.slice (some ⟨B, 0, none⟩) 1 cap, .func (.func 35) #[] #[]] w fun e w' => e = .returned (.bool false) ∧ w = w' := by
  have HL := Lib.hid (index_any B cap s w hc hs)
  go_enter Tryz.func34, Tryz.ntmps34
  go_wp2_with fail
  (with_reducible refine HL.out.mono ?_)
  rintro e w1 ⟨rfl, rfl⟩
  go_wp2_with fail
  go_ret
  exact ⟨rfl, rfl⟩
set_option maxHeartbeats 1000000 in
set_option maxRecDepth 100000 in
theorem walAppend_any (L B cap : Nat) (s : Bytes) (w : World) (hc : w.cell? ⟨B, 0, none⟩ = some (strV s)) (hs : s.length ≤ 65536) (c : Int) (Q : World → Prop)
    (hlay : Calls Tryz.prog 36 #[.pointer (some ⟨L, 0, none⟩), strV s] w fun e w' => e = .returned (i64 c) ∧ Q w') :
    Calls Tryz.prog 8 #[.pointer (some ⟨L, 0, none⟩), .slice (some ⟨B, 0, none⟩) 1 cap] w fun e w' => e = .returned (i64 c) ∧ Q w' := by
  have HL := Lib.hid (contains_any B cap s w hc hs)
  have HY := Lib.hid hlay
  clear hlay
  go_enter Tryz.func8, Tryz.ntmps8
  go_wp2_with fail
  (with_reducible refine HL.out.mono ?_)
  rintro e w1 ⟨rfl, rfl⟩
  go_wp2_with fail
  refine wp_loop_rounds 2 ?_
  rw [rounds_succ]
  go_wp2_with fail
  (with_reducible refine HY.out.mono ?_)
  rintro e w1 ⟨rfl, hQ⟩
  have HQ := Lib.hid hQ
  clear hQ
  by_cases h0 : c = 0
  · subst h0
    go_wp2_with fail
    rw [rounds_succ]
    go_wp2_with fail
    go_ret
    exact ⟨rfl, HQ.out⟩
  · have h1 : (c != 0) = true := by simpa using h0
    go_wp2_with fail
    go_ret
    exact ⟨rfl, HQ.out⟩
end Go.Proofs.YtofnehgjkdcmnaaGreatDoor

/- The walk of right, of the name "log". -/
namespace Go.Proofs.YtofnehgjkdcmnaaGreatDoor
open Go.RowKit Hg

set_option maxHeartbeats 1000000 in
set_option maxRecDepth 100000 in
theorem right_log (w : World) :
    Calls Tryz.prog 14 #[strV [108, 111, 103]] w fun e w' => e = .returned (.bool true) ∧ Chg [] w w' := by
  go_enter Tryz.func14, Tryz.ntmps14
  go_wp2_with fail
  rw [Lib.run_convert_string_bytes w 9 99 5 _ Tryz.underlying9 Tryz.underlying99 Tryz.underlying5]
  have hcell : ∀ j, j < 3 → (Lib.bytesWorld w 5 ⟨#[108, 111, 103]⟩).cell? ⟨w.heap.size, j, none⟩ = some (.int .u8 (([108, 111, 103] : Bytes).getD j 0).toNat) := fun j hj => by
    rw [Lib.bytesWorld_cell w 5 _ j (by exact hj)]
  have hchg : Chg [] w (Lib.bytesWorld w 5 ⟨#[108, 111, 103]⟩) := ⟨rfl, rfl, rfl, by rw [Lib.bytesWorld_size]; omega, fun i hi _ => Lib.bytesWorld_at_old w 5 _ i hi⟩
  have h0 := hcell 0 (by decide)
  have h1 := hcell 1 (by decide)
  have h2 := hcell 2 (by decide)
  clear hcell
  generalize Lib.bytesWorld w 5 ⟨#[108, 111, 103]⟩ = W at h0 h1 h2 hchg ⊢
  generalize grownCap w _ 0 5 = cap
  simp only [Result.andThen]
  rw [Oper.upon_value]
  go_wp2_with fail
  have HC := Lib.hid hchg
  clear hchg
  refine wp_loop_rounds 4 ?_
  rw [rounds_succ]
  go_wp2_with fail
  rw [rounds_succ]
  go_wp2_with fail
  rw [rounds_succ]
  go_wp2_with fail
  rw [rounds_succ]
  go_wp2_with fail
  go_returns
  exact ⟨rfl, HC.out⟩
end Go.Proofs.YtofnehgjkdcmnaaGreatDoor
