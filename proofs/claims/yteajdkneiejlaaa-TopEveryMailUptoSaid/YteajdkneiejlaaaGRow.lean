/- PROVED: TopEveryMail returns true and leaves its arguments as they were: of any messages, and any packets lost, doubled and late, each of two nodes has, behind a while in which all come, heard just what the other one said, once, in order.
   CONDITIONS: the arguments are together of bulk at most 1048576 (the statement's own bound); none other. -/
import Derived.Test.YteajdkneiejlaaaRows
import Derived.Test.YteajdkneiejlaaaGLaw
import Derived.WalkKit
import Derived.ProofKit
import Derived.OpenShut
import Derived.JoinedCond
import Derived.Carry
namespace Go.Proofs.Yteajdkneiejlaaa
open Go.ChangeShapes Go.WideShapes Go.ChangeAt Go.RowKit Hg

theorem mail_own : ownKnob Try.prog.godebug = none := by kernel_rfl
theorem mail_laid : laidOutB Try.prog = true := by kernel_rfl

theorem mail_bulk {H : Type} {d0 d1 d2 : DataW H} (hk : Rows.uptoSmall H ([d0, d1, d2] ++ []) = true) : Rows.uptoBulk d0 + (Rows.uptoBulk d1 + (Rows.uptoBulk d2 + 0)) ≤ 1048576 := of_decide_eq_true hk

theorem args3 {P : Program} {t0 t1 t2 e0 e1 e2 : TypeId} (u0 : P.underlying t0 = some (.slice e0)) (u1 : P.underlying t1 = some (.slice e1)) (u2 : P.underlying t2 = some (.slice e2)) {W : World} {r : Reach} {base : Nat} {v0 v1 v2 : Value} (h : ∀ (j : Nat) (t : TypeId) (v : Value), (#[t0, t1, t2] : Array TypeId)[j]? = some t → (#[v0, v1, v2] : Array Value)[j]? = some v → Value.okWide P W r base t v) :
    (∃ a n c, v0 = .slice a n c) ∧ (∃ a n c, v1 = .slice a n c) ∧ ∃ a n c, v2 = .slice a n c :=
  ⟨okWide_slice u0 (h 0 _ v0 rfl rfl), okWide_slice u1 (h 1 _ v1 rfl rfl), okWide_slice u2 (h 2 _ v2 rfl rfl)⟩

set_option maxRecDepth 100000 in
theorem mail_contract (H : Type) (enc : TypeId × Value → H) (W : World) (base : Nat) (args : Array Value) (ds gs : List (DataW H)) (before : List MemPlace)
    (hval : ∀ (j : Nat) t v, Try.f3.params[j]? = some t → args[j]? = some v → Value.okWide Try.prog W .any base t v)
    (hW : DataW.Whole enc Try.prog Try.f3.params.toList Rows.topEveryMailSpec.vars false W args.toList ds gs before) (hk : Rows.uptoSmall H (ds ++ gs) = true) :
    Calls Try.prog 3 args W fun e W' => ∃ v, e = .returned v ∧ Rows.topEveryMailSpec.post enc Try.prog Try.f3 false true false false W args v W' := by
  have hW' := hW
  obtain ⟨p, q, hA0, hV, rfl, hfz, hnd⟩ := hW
  have hA : DataW.TrodAll enc Try.prog W 0 (fun _ => true) true Try.f3.params.toList args.toList ds p := hA0
  rw [Try.params3] at hA hval
  obtain ⟨v0, vs0, d0, ds0, p0, q0, hargs, rfl, rfl, h0, r0⟩ := trodAll_cons hA
  obtain ⟨v1, vs1, d1, ds1, p1, q1, rfl, rfl, rfl, h1, r1⟩ := trodAll_cons r0
  obtain ⟨v2, vs2, d2, ds2, p2, q2, rfl, rfl, rfl, h2, r2⟩ := trodAll_cons r1
  obtain ⟨rfl, rfl, rfl⟩ := trodAll_nil r2
  obtain rfl : args = #[v0, v1, v2] := by cases args; simp_all
  obtain ⟨rfl, rfl⟩ := trodVars_none hV
  have K : (∃ a n c, v0 = .slice a n c) ∧ (∃ a n c, v1 = .slice a n c) ∧ ∃ a n c, v2 = .slice a n c := by
    refine args3 (r := .any) (W := W) (base := base) Try.underlying22 Try.underlying22 Try.underlying23 ?_
    assumption
  clear hval
  obtain ⟨⟨a0, n0, c0, rfl⟩, ⟨a1, n1, c1, rfl⟩, a2, n2, c2, rfl⟩ := K
  have hb := mail_bulk hk
  obtain ⟨xa, ra, ia, la, ba⟩ := open_msgs h0 (by omega)
  obtain ⟨xb, rb, ib, lb, bb⟩ := open_msgs h1 (by omega)
  obtain ⟨ls, rl, il, ll, bl⟩ := open_mails h2
  have lt0 : ∀ x ∈ p0, x.block < W.heap.size := by obtain ⟨m, hm⟩ := h0; exact DataW.trod_lt m _ _ _ hm
  have lt1 : ∀ x ∈ p1, x.block < W.heap.size := by obtain ⟨m, hm⟩ := h1; exact DataW.trod_lt m _ _ _ hm
  have lt2 : ∀ x ∈ p2, x.block < W.heap.size := by obtain ⟨m, hm⟩ := h2; exact DataW.trod_lt m _ _ _ hm
  clear hA0 hk
  refine (law_any W a0 a1 a2 n0 n1 n2 c0 c1 c2 xa xb ls ra rb rl ia ib la lb ll (by omega) il).mono fun e W' ⟨he, hc⟩ => ?_
  subst he
  have bel : Below W.heap.size W W' := hc.chg.below
  exact ⟨_, rfl, _, _, _, [], _, [], hW', trodAll_mk1 (shut_bool Try.underlying4 _), (trodAll_cons_mk (Below.trod mail_laid (by kernel_rfl) (of_decide_eq_true (by kernel_rfl)) h0 bel lt0) (trodAll_cons_mk (Below.trod mail_laid (by kernel_rfl) (of_decide_eq_true (by kernel_rfl)) h1 bel lt1) (trodAll_cons_mk (Below.trod mail_laid (by kernel_rfl) (of_decide_eq_true (by kernel_rfl)) h2 bel lt2) trodAll_mk0))), rfl, bel.frame _, fun h => by cases h⟩

set_option maxRecDepth 100000 in
theorem mail_lifted (os : Os) (started : os.Started) (H : Type) (enc : TypeId × Value → H) (F : Stop.Interp) :
    ReturnsInHanded {} Try.checked os 3 .any ((Rows.OpenSpec.upto Rows.topEveryMailSpec).pre6 enc Try.prog Try.f3 Rows.topEveryMailUptoRow.domain false) (((Rows.OpenSpec.upto Rows.topEveryMailSpec).at F).post enc Try.prog Try.f3 false true false false) := by
  refine returnsInHanded_of_cond (C := Try.checked) (s := Rows.OpenSpec.upto Rows.topEveryMailSpec) (k := Rows.uptoSmall) rfl mail_own started (by kernel_rfl) Try.func3
    (OpenSpec.witness (enc := enc) (C := Try.checked) (s := Rows.OpenSpec.upto Rows.topEveryMailSpec) (k := Rows.uptoSmall) rfl false ⟨#[], #[.slice none 0 0, .slice none 0 0, .slice none 0 0], []⟩ 8 (by kernel_rfl) (by kernel_rfl) (by kernel_rfl)
      (x := ([.nil, .nil, .nil], [], [])) (by kernel_rfl) rfl (by kernel_rfl)) ?_
  intro W base args ds gs before hval hW _ hk _
  exact mail_contract H enc W base args ds gs before hval hW hk

theorem mail_holds : Rows.TopEveryMailUptoSaid :=
  OpenClaim.holds_of_cond 3 Try.f3 rfl rfl rfl rfl rfl rfl rfl ⟨rfl, rfl, rfl, rfl, rfl⟩ rfl rfl rfl rfl rfl (by kernel_rfl) Try.func3 (by kernel_rfl)
    (of_decide_eq_true (by kernel_rfl)) (by unfold Func.isWrapper; first | (rw [if_pos (by decide +kernel)]; kernel_rfl) | (rw [if_neg (by decide +kernel)]; exact ⟨rfl, rfl⟩))
    (fun os started H enc _ F => mail_lifted os started H enc F)
#print axioms mail_holds
end Go.Proofs.Yteajdkneiejlaaa
