/- PROVED: the card of TopEveryLog's second form: TopEveryLog returns true and leaves its arguments as they were: of any messages, synced whenever it may be, on a disk that dies at any byte and crashes with any bytes kept, unless it is full of files, there are all that were synced, and of the others a beginning; and what is logged behind that is read, too.
   CONDITIONS: the arguments are together of bulk at most 1048576 (the statement's own bound); the listed package variables hold what the program's text lays (the card's tie). -/
import Derived.Test.YtofnehgjkdcmnaaGreatDoorCards
import Derived.Test.YtofnehgjkdcmnaaGreatDoorTie
import Derived.Test.YtofnehgjkdcmnaaGreatDoorGLgLaw
import Derived.WalkKit
import Derived.ProofKit
import Derived.OpenShut
import Derived.JoinedCond
import Derived.Carry
import Derived.Deep.DeepHandedRow
import Derived.Deep.DeepWitnessRowRef
import Derived.Lib.LaidIn
import Derived.Stop.LaidErr
import Derived.SevenTiedAt
namespace Go.Proofs.YtofnehgjkdcmnaaGreatDoor
open Go.ChangeShapes Go.WideShapes Go.ChangeAt Go.RowKit Hg

theorem log_own : ownKnob Tryz.prog.godebug = none := by kernel_rfl
theorem log_laidOut : laidOutB Tryz.prog = true := by kernel_rfl

/-- a table's numbers, as a row lists them -/
def litInts : DataW Unit → List Int
  | .agg l => l.filterMap fun | .lit (.int _ z) => some z | _ => none
  | _ => []
theorem nib_data : (Rows.laid_hedgerow_frame_nibble : DataW Unit) = Lib.tabData .u32 (litInts Rows.laid_hedgerow_frame_nibble) := by kernel_rfl
theorem pow_data : (Rows.laid_internal_strconv_uint64pow10 : DataW Unit) = Lib.tabData .u64 Lib.pow10Tab := by kernel_rfl
theorem g_nib : Tryz.prog.globalNamed "hedgerow/frame.nibble" = some 0 := by kernel_rfl
theorem ty_nib : (Tryz.prog.globals[0]?).map (·.type) = some 189 := by kernel_rfl
theorem cells_nib : Tryz.prog.cellsOf 189 = 16 := by kernel_rfl
theorem cells_u32 : Tryz.prog.cellsOf 152 = 1 := by kernel_rfl
theorem g_pow : Tryz.prog.globalNamed "internal/strconv.uint64pow10" = some 5 := by kernel_rfl
theorem ty_pow : (Tryz.prog.globals[5]?).map (·.type) = some 229 := by kernel_rfl
theorem cells_pow : Tryz.prog.cellsOf 229 = 20 := by kernel_rfl
theorem cells_u64 : Tryz.prog.cellsOf 159 = 1 := by kernel_rfl
/-- the table of sums, as numbers -/
def nibT (i : Nat) : Nat := ((litInts Rows.laid_hedgerow_frame_nibble).getD i 0).toNat
theorem nib_ok : ∀ i, i < 16 → nibT i < 4294967296 ∧ (litInts Rows.laid_hedgerow_frame_nibble).getD i 0 = (nibT i : Int) := by decide +kernel
theorem nib_len : (litInts Rows.laid_hedgerow_frame_nibble).length = 16 := by decide +kernel

theorem log_env {W : World} (h : laidMet Tryz.prog Rows.topEveryLogUptoRow.laid W) : Env nibT W ∧ 6 ≤ W.heap.size := by
  have h0 : laidMet Tryz.prog (("hedgerow/frame.nibble", Rows.laid_hedgerow_frame_nibble) :: _) W := h
  rw [nib_data] at h0
  have t0 := Lib.tabIs_of_head g_nib ty_nib Tryz.underlying189 Tryz.underlying152 cells_u32 cells_nib h0
  have h5 : laidMet Tryz.prog (("internal/strconv.uint64pow10", Rows.laid_internal_strconv_uint64pow10) :: _) W := laidMet.tail (laidMet.tail (laidMet.tail h))
  rw [pow_data] at h5
  have t5 := Lib.tabIs_of_head g_pow ty_pow Tryz.underlying229 Tryz.underlying159 cells_u64 cells_pow h5
  have h9 : 5 < W.heap.size := by
    have := t5
    unfold Lib.TabIs World.var? at this
    rw [g_pow] at this
    simp only [Option.bind_some] at this
    rcases Nat.lt_or_ge 5 W.heap.size with hl | hl
    · exact hl
    · rw [Array.getElem?_eq_none hl] at this; cases this
  refine ⟨⟨fun i hi => (nib_ok i hi).1, fun i hi => ?_, t5, by omega⟩, h9⟩
  have := t0.cell g_nib i (by rw [nib_len]; exact hi)
  rw [(nib_ok i hi).2] at this
  exact this

theorem log_bulk {H : Type} {d0 d1 d2 d3 : DataW H} (hk : Rows.uptoSmall H ([d0, d1, d2, d3] ++ []) = true) : Rows.uptoBulk d0 + (Rows.uptoBulk d1 + (Rows.uptoBulk d2 + (Rows.uptoBulk d3 + 0))) ≤ 1048576 := of_decide_eq_true hk
theorem args4 {P : Program} {t0 t1 t2 t3 e0 e1 : TypeId} (u0 : P.underlying t0 = some (.slice e0)) (u1 : P.underlying t1 = some (.slice e1)) (u2 : P.underlying t2 = some (.int .i64)) (u3 : P.underlying t3 = some (.int .i64)) {W : World} {r : Reach} {base : Nat} {v0 v1 v2 v3 : Value} (h : ∀ (j : Nat) (t : TypeId) (v : Value), (#[t0, t1, t2, t3] : Array TypeId)[j]? = some t → (#[v0, v1, v2, v3] : Array Value)[j]? = some v → Value.okWide P W r base t v) :
    (∃ a n c, v0 = .slice a n c) ∧ (∃ a n c, v1 = .slice a n c) ∧ (∃ k, v2 = .int .i64 k) ∧ ∃ k, v3 = .int .i64 k :=
  ⟨okWide_slice u0 (h 0 _ v0 rfl rfl), okWide_slice u1 (h 1 _ v1 rfl rfl), okWide_int u2 (h 2 _ v2 rfl rfl), okWide_int u3 (h 3 _ v3 rfl rfl)⟩

set_option maxRecDepth 100000 in
theorem log_contract (H : Type) (enc : TypeId × Value → H) (W : World) (base : Nat) (args : Array Value) (ds gs : List (DataW H)) (before : List MemPlace)
    (hval : ∀ (j : Nat) t v, Tryz.f3.params[j]? = some t → args[j]? = some v → Value.okWide Tryz.prog W .any base t v)
    (hW : DataW.Whole enc Tryz.prog Tryz.f3.params.toList Rows.topEveryLogSpec.vars false W args.toList ds gs before) (hk : Rows.uptoSmall H (ds ++ gs) = true) (hL : laidMet Tryz.prog Rows.topEveryLogUptoRow.laid W) :
    Calls Tryz.prog 3 args W fun e W' => ∃ v, e = .returned v ∧ Rows.topEveryLogSpec.post enc Tryz.prog Tryz.f3 false true false false W args v W' := by
  have hW' := hW
  obtain ⟨p, q, hA0, hV, rfl, hfz, hnd⟩ := hW
  have hA : DataW.TrodAll enc Tryz.prog W 0 (fun _ => true) true Tryz.f3.params.toList args.toList ds p := hA0
  rw [Tryz.params3] at hA hval
  obtain ⟨v0, vs0, d0, ds0, p0, q0, hargs, rfl, rfl, h0, r0⟩ := trodAll_cons hA
  obtain ⟨v1, vs1, d1, ds1, p1, q1, rfl, rfl, rfl, h1, r1⟩ := trodAll_cons r0
  obtain ⟨v2, vs2, d2, ds2, p2, q2, rfl, rfl, rfl, h2, r2⟩ := trodAll_cons r1
  obtain ⟨v3, vs3, d3, ds3, p3, q3, rfl, rfl, rfl, h3, r3⟩ := trodAll_cons r2
  obtain ⟨rfl, rfl, rfl⟩ := trodAll_nil r3
  obtain rfl : args = #[v0, v1, v2, v3] := by cases args; simp_all
  obtain ⟨rfl, rfl⟩ := trodVars_none hV
  have K : (∃ a n c, v0 = .slice a n c) ∧ (∃ a n c, v1 = .slice a n c) ∧ (∃ k, v2 = .int .i64 k) ∧ ∃ k, v3 = .int .i64 k := by
    refine args4 (r := .any) (W := W) (base := base) Tryz.underlying22 Tryz.underlying23 Tryz.underlying3 Tryz.underlying3 ?_
    assumption
  clear hval
  obtain ⟨⟨a0, n0, c0, rfl⟩, ⟨a1, n1, c1, rfl⟩, ⟨k2, rfl⟩, k3, rfl⟩ := K
  have hb := log_bulk hk
  obtain ⟨xa, ra, ia, la, ba⟩ := open_msgs h0 (by omega)
  obtain ⟨bs, rb, lb, bb⟩ := open_bools h1
  have i2 := open_int h2
  have lt0 : ∀ x ∈ p0, x.block < W.heap.size := by obtain ⟨m, hm⟩ := h0; exact DataW.trod_lt m _ _ _ hm
  have lt1 : ∀ x ∈ p1, x.block < W.heap.size := by obtain ⟨m, hm⟩ := h1; exact DataW.trod_lt m _ _ _ hm
  have lt2 : ∀ x ∈ p2, x.block < W.heap.size := by obtain ⟨m, hm⟩ := h2; exact DataW.trod_lt m _ _ _ hm
  have lt3 : ∀ x ∈ p3, x.block < W.heap.size := by obtain ⟨m, hm⟩ := h3; exact DataW.trod_lt m _ _ _ hm
  obtain ⟨hE, h6⟩ := log_env hL
  clear hA0 hk
  refine (logLaw_any nibT W a0 a1 n0 c0 n1 c1 xa bs k2 k3 hE h6 ra ia la rb lb (by omega) i2).mono fun e W' ⟨he, bel⟩ => ?_
  subst he
  exact ⟨_, rfl, _, _, _, [], _, [], hW', trodAll_mk1 (shut_bool Tryz.underlying4 _), (trodAll_cons_mk (Below.trod log_laidOut (by kernel_rfl) (of_decide_eq_true (by kernel_rfl)) h0 bel lt0) (trodAll_cons_mk (Below.trod log_laidOut (by kernel_rfl) (of_decide_eq_true (by kernel_rfl)) h1 bel lt1) (trodAll_cons_mk (Below.trod log_laidOut (by kernel_rfl) (of_decide_eq_true (by kernel_rfl)) h2 bel lt2) (trodAll_cons_mk (Below.trod log_laidOut (by kernel_rfl) (of_decide_eq_true (by kernel_rfl)) h3 bel lt3) trodAll_mk0)))), rfl, bel.frame _, fun h => by cases h⟩

/-- a table's cells, as its datum has them -/
def litCells : DataW Unit → List Value
  | .agg l => l.flatMap fun
    | .lit (.int k z) => [.int k z]
    | .agg m => m.filterMap fun | .lit (.int k z) => some (.int k z) | _ => none
    | _ => []
  | _ => []
/-- a sentinel's text -/
def litText : DataW Unit → ByteArray
  | .iface _ (.ptr (.agg [.lit (.string s)])) => ⟨s.toArray⟩
  | _ => ⟨#[]⟩
/-- THE WITNESS: the settled world with two blocks more (the two errors' structs), the eight variables holding what their initialisers lay. -/
noncomputable def laidWorld (os : Os) : World :=
  let N := (World.settled Tryz.prog os).heap.size
  let w0 := World.holding Tryz.prog os ⟨#[.cells #[.string (litText Rows.laid_strconv_ErrRange)] 227, .cells #[.string (litText Rows.laid_strconv_ErrSyntax)] 227], #[], []⟩
  let put (h : Array Obj) (g : Nat) (cs : Array Value) : Array Obj := h.modify g fun
    | .cells _ t frozen => .cells cs t frozen
    | o => o
  let h0 := put (put w0.heap 2 #[.iface 225 (.pointer (some ⟨N, 0, none⟩))]) 1 #[.iface 225 (.pointer (some ⟨N + 1, 0, none⟩))]
  let h1 := put h0 0 (litCells Rows.laid_hedgerow_frame_nibble).toArray
  let h2 := put h1 7 (litCells Rows.laid_math_bits_deBruijn32tab).toArray
  let h3 := put h2 8 (litCells Rows.laid_math_bits_deBruijn64tab).toArray
  let h4 := put h3 5 (litCells Rows.laid_internal_strconv_uint64pow10).toArray
  let h5 := put h4 4 (litCells Rows.laid_unicode_utf8_acceptRanges).toArray
  let h6 := put h5 3 (litCells Rows.laid_unicode_utf8_first).toArray
  { w0 with heap := h6 }
noncomputable abbrev N0 : Nat := (World.settled Tryz.prog default).heap.size
theorem laid_met (os : Os) (args : Array Value) : laidMet Tryz.prog Rows.topEveryLogUptoRow.laid ((laidWorld os).forCall (fun _ _ => 0) ⟨#[], args, []⟩).memory :=
  (LaidIn.of_run [0, 7, 8, 5, 4, 2, N0, 1, N0 + 1, 3] 8 (by kernel_rfl) (by kernel_rfl) (by kernel_rfl) (by kernel_rfl)).met
theorem log_reads (os : Os) {H : Type} (enc : TypeId × Value → H) : ∃ places, DataW.whole enc Tryz.prog ((laidWorld os).forCall (fun _ _ => 0) ⟨#[], #[.slice none 0 0, .slice none 0 0, .int .i64 0, .int .i64 0], []⟩).memory Tryz.f3.params.toList Rows.topEveryLogSpec.vars false #[Value.slice none 0 0, Value.slice none 0 0, Value.int .i64 0, Value.int .i64 0].toList 8 = some ([.nil, .nil, .lit (.int .i64 0), .lit (.int .i64 0)], [], places) :=
  ⟨[], by kernel_rfl⟩

set_option maxRecDepth 100000 in
theorem log_lifted (os : Os) (started : os.Started) (H : Type) (enc : TypeId × Value → H) (F : Stop.Interp) :
    ReturnsInHanded {} Tryz.checked os 3 .any ((Rows.OpenSpec.upto Rows.topEveryLogSpec).preRow enc Tryz.prog Tryz.f3 Rows.topEveryLogUptoRow.domain false Rows.topEveryLogUptoRow.laid) (((Rows.OpenSpec.upto Rows.topEveryLogSpec).at F).post enc Tryz.prog Tryz.f3 false true false false) := by
  obtain ⟨places, hx⟩ := log_reads os enc
  refine returnsInHanded_of_row (C := Tryz.checked) (s := Rows.OpenSpec.upto Rows.topEveryLogSpec) log_own started (by kernel_rfl) Tryz.func3
    (witness_row_atRef (enc := enc) (C := Tryz.checked) false (laidWorld os) #[.slice none 0 0, .slice none 0 0, .int .i64 0, .int .i64 0] rfl (by kernel_rfl) (by kernel_rfl) (by kernel_rfl)
      (OpenSpec.preRow_of_cond 8 hx (by kernel_rfl) (fun k hk => by cases hk; kernel_rfl) (by kernel_rfl) (laid_met os _))) ?_
  intro W base args ds gs before hval hW _ hcond _ hL _ _
  exact log_contract H enc W base args ds gs before hval hW (hcond _ rfl) hL

theorem log_said : Rows.TopEveryLogUptoSaid :=
  OpenClaim.holds_of_cond 3 Tryz.f3 rfl rfl rfl rfl rfl rfl rfl ⟨rfl, rfl, rfl, rfl, rfl⟩ rfl rfl rfl rfl rfl (by kernel_rfl) Tryz.func3 (by kernel_rfl)
    (of_decide_eq_true (by kernel_rfl)) (by unfold Func.isWrapper; first | (rw [if_pos (by decide +kernel)]; kernel_rfl) | (rw [if_neg (by decide +kernel)]; exact ⟨rfl, rfl⟩))
    (fun os started H enc _ F => by rw [OpenClaim.pre_eq_preRow]; exact log_lifted os started H enc F)

theorem log_plain (f : FuncId) (fn : Func) (hf : Tryz.pinned.checked.prog.funcNamed "hedgerow/hedgerowtop.TopEveryLog" = some f) (hfn : Tryz.pinned.checked.prog.funcs[f]? = some fn) :
    true = Tryz.pinned.checked.prog.looks [] ∧ ∀ (j : Nat) t, fn.params[j]? = some t → Tryz.pinned.checked.prog.wantsStandIn t = false := by
  obtain rfl : f = 3 := Option.some.inj ((show Tryz.prog.funcNamed "hedgerow/hedgerowtop.TopEveryLog" = some 3 by kernel_rfl).symm.trans hf) |>.symm
  obtain rfl : fn = Tryz.f3 := (Option.some.inj (Tryz.func3.symm.trans hfn)).symm
  refine ⟨by kernel_rfl, fun j t ht => ?_⟩
  rw [Tryz.params3] at ht
  have hm := Array.mem_of_getElem? ht
  simp only [List.mem_toArray, List.mem_cons, List.not_mem_nil, or_false] at hm
  rcases hm with rfl | rfl | rfl | rfl
  · exact (show Tryz.prog.wantsStandIn 22 = false by kernel_rfl)
  · exact (show Tryz.prog.wantsStandIn 23 = false by kernel_rfl)
  · exact (show Tryz.prog.wantsStandIn 3 = false by kernel_rfl)
  · exact (show Tryz.prog.wantsStandIn 3 = false by kernel_rfl)

theorem log_holds : Rows.TopEveryLogUptoCardSaid :=
  Claim7.holds_tied_plain_at .later [] _ _ _ _ log_said (fun _ h => by cases h) (by kernel_rfl) (fun _ h => by cases h) topEveryLogUpto_row_tie rfl ⟨rfl, rfl⟩ (by kernel_rfl) rfl log_plain (by kernel_rfl)
#print axioms log_holds
end Go.Proofs.YtofnehgjkdcmnaaGreatDoor
