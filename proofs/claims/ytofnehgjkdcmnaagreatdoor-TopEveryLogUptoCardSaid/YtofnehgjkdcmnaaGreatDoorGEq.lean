/- '==' and '!=' of names, entities and commands. -/
import Derived.Test.YtofnehgjkdcmnaaGreatDoorGChk
import Derived.Laws.StructEq
namespace Go.Proofs.YtofnehgjkdcmnaaGreatDoor
open Go.RowKit Hg

abbrev bunA (b : Bun) : Array Value := #[i64 b.id.shard, i64 b.id.index, i64 b.id.gen, i64 b.mask, i64 b.x, i64 b.y, i64 b.vx, i64 b.vy, i64 b.hp, i64 b.power, i64 b.left]
abbrev cmdV (c : Cmd) : Value := .agg #[i64 c.kind, i64 c.id.shard, i64 c.id.index, i64 c.id.gen, i64 c.b.id.shard, i64 c.b.id.index, i64 c.b.id.gen, i64 c.b.mask, i64 c.b.x, i64 c.b.y, i64 c.b.vx, i64 c.b.vy, i64 c.b.hp, i64 c.b.power, i64 c.b.left, i64 c.mask]

section
variable {P : Program} {d : Nat} {xs ys : Array Value} {f : Field} {fs : List Field} {a b : Value} {r s : Bool} {w : World}
theorem eqf_cons (hn : (f.name == "_") = false) (ha : (part f.type xs f.offset).run P w = .ok a w) (hb : (part f.type ys f.offset).run P w = .ok b w) (he : (Op.equalIn d f.type a b).run P w = .ok r w)
    (hr : (Op.eqFields d xs ys fs).run P w = .ok s w) : (Op.eqFields d xs ys (f :: fs)).run P w = .ok (r && s) w := by
  have hn' : f.name ≠ "_" := by simpa using hn
  rw [Op.eqFields]
  simp only [if_pos hn', Sem.run_bind, ha, hb, he, Result.andThen_ok]
  cases r
  · simp
  · simpa using hr
theorem eqf_nil : (Op.eqFields d xs ys []).run P w = .ok true w := by simp [Op.eqFields]
theorem eqA_of {t : TypeId} {fs : Array Field} (hu : P.underlying t = some (.struct fs)) (hp : P.stoodInHeld t = false) (h : (Op.eqFields d xs ys fs.toList).run P w = .ok r w) : (Op.equalIn (d + 1) t (.agg xs) (.agg ys)).run P w = .ok r w := by
  have hf : P.fieldsOf t = fs := by simp [Program.fieldsOf, hu]
  rw [run_equalIn_struct (P := P) w d t xs ys (by rw [hf]; exact hu) hp, hf]
  exact h
end

theorem part_int (xs : Array Value) (n : Nat) (v : Value) (w : World) (h : xs[n]? = some v) : (part 3 xs n).run Tryz.prog w = .ok v w := by
  simp [part, go_sem, Tryz.isAgg3, h]

theorem eq_int (d : Nat) (a b : Int) (w : World) : (Op.equalIn (d + 1) 3 (i64 a) (i64 b)).run Tryz.prog w = .ok (a == b) w := by
  simp [Op.equalIn, run_underlying Tryz.underlying3]

theorem eq_id (d : Nat) (a b : ID) (w : World) : (Op.equalIn (d + 2) 73 (idV a) (idV b)).run Tryz.prog w = .ok (a == b) w := by
  have h : (a == b) = ((a.shard == b.shard) && ((a.index == b.index) && ((a.gen == b.gen) && true))) := by
    obtain ⟨a1, a2, a3⟩ := a; obtain ⟨b1, b2, b3⟩ := b
    rw [Bool.eq_iff_iff]; simp
  rw [h]
  refine eqA_of Tryz.underlying73 (by kernel_rfl) ?_
  exact eqf_cons (by decide) (part_int _ _ _ _ rfl) (part_int _ _ _ _ rfl) (eq_int _ _ _ _) (eqf_cons (by decide) (part_int _ _ _ _ rfl) (part_int _ _ _ _ rfl) (eq_int _ _ _ _) (eqf_cons (by decide) (part_int _ _ _ _ rfl) (part_int _ _ _ _ rfl) (eq_int _ _ _ _) eqf_nil))

theorem part_id (xs : Array Value) (n : Nat) (v : Array Value) (w : World) (_m : Nat) (h : xs.extract n (n + 3) = v) : (part 73 xs n).run Tryz.prog w = .ok (.agg v) w := by
  simp [part, go_sem, Tryz.isAgg73, Tryz.sizeOf73, h]
theorem part_bun (xs : Array Value) (n : Nat) (v : Array Value) (w : World) (_m : Nat) (h : xs.extract n (n + 11) = v) : (part 75 xs n).run Tryz.prog w = .ok (.agg v) w := by
  simp [part, go_sem, Tryz.isAgg75, Tryz.sizeOf75, h]

theorem eq_bun (d : Nat) (a b : Bun) (w : World) : (Op.equalIn (d + 3) 75 (bunV a) (bunV b)).run Tryz.prog w = .ok (a == b) w := by
  have h : (a == b) = ((a.id == b.id) && ((a.mask == b.mask) && ((a.x == b.x) && ((a.y == b.y) && ((a.vx == b.vx) && ((a.vy == b.vy) && ((a.hp == b.hp) && ((a.power == b.power) && ((a.left == b.left) && true))))))))) := by
    obtain ⟨a0, a1, a2, a3, a4, a5, a6, a7, a8⟩ := a; obtain ⟨b0, b1, b2, b3, b4, b5, b6, b7, b8⟩ := b
    rw [Bool.eq_iff_iff]; simp
  rw [h]
  refine eqA_of Tryz.underlying75 (by kernel_rfl) ?_
  exact (eqf_cons (by decide) (part_id _ _ #[i64 a.id.shard, i64 a.id.index, i64 a.id.gen] _ 0 rfl) (part_id _ _ #[i64 b.id.shard, i64 b.id.index, i64 b.id.gen] _ 0 rfl) (eq_id _ a.id b.id _) (eqf_cons (by decide) (part_int _ _ _ _ rfl) (part_int _ _ _ _ rfl) (eq_int _ _ _ _) (eqf_cons (by decide) (part_int _ _ _ _ rfl) (part_int _ _ _ _ rfl) (eq_int _ _ _ _) (eqf_cons (by decide) (part_int _ _ _ _ rfl) (part_int _ _ _ _ rfl) (eq_int _ _ _ _) (eqf_cons (by decide) (part_int _ _ _ _ rfl) (part_int _ _ _ _ rfl) (eq_int _ _ _ _) (eqf_cons (by decide) (part_int _ _ _ _ rfl) (part_int _ _ _ _ rfl) (eq_int _ _ _ _) (eqf_cons (by decide) (part_int _ _ _ _ rfl) (part_int _ _ _ _ rfl) (eq_int _ _ _ _) (eqf_cons (by decide) (part_int _ _ _ _ rfl) (part_int _ _ _ _ rfl) (eq_int _ _ _ _) (eqf_cons (by decide) (part_int _ _ _ _ rfl) (part_int _ _ _ _ rfl) (eq_int _ _ _ _) eqf_nil)))))))))

theorem eq_cmd (d : Nat) (a b : Cmd) (w : World) : (Op.equalIn (d + 4) 77 (cmdV a) (cmdV b)).run Tryz.prog w = .ok (a == b) w := by
  have h : (a == b) = ((a.kind == b.kind) && ((a.id == b.id) && ((a.b == b.b) && ((a.mask == b.mask) && true)))) := by
    obtain ⟨a0, a1, a2, a3⟩ := a; obtain ⟨b0, b1, b2, b3⟩ := b
    rw [Bool.eq_iff_iff]; simp
  rw [h]
  refine eqA_of Tryz.underlying77 (by kernel_rfl) ?_
  exact (eqf_cons (by decide) (part_int _ _ _ _ rfl) (part_int _ _ _ _ rfl) (eq_int _ _ _ _) (eqf_cons (by decide) (part_id _ _ #[i64 a.id.shard, i64 a.id.index, i64 a.id.gen] _ 0 rfl) (part_id _ _ #[i64 b.id.shard, i64 b.id.index, i64 b.id.gen] _ 0 rfl) (eq_id _ a.id b.id _) (eqf_cons (by decide) (part_bun _ _ (bunA a.b) _ 0 rfl) (part_bun _ _ (bunA b.b) _ 0 rfl) (eq_bun _ a.b b.b _) (eqf_cons (by decide) (part_int _ _ _ _ rfl) (part_int _ _ _ _ rfl) (eq_int _ _ _ _) eqf_nil))))

theorem neq_id (a b : ID) (w : World) : (binOp .neq 73 (idV a) (idV b)).run Tryz.prog w = .ok (.bool (!(a == b))) w := by
  simp only [binOp]
  simp [Op.equal, Op.maxDepth, eq_id 9998]
theorem neq_bun (a b : Bun) (w : World) : (binOp .neq 75 (bunV a) (bunV b)).run Tryz.prog w = .ok (.bool (!(a == b))) w := by
  simp only [binOp]
  simp [Op.equal, Op.maxDepth, eq_bun 9997]
theorem neq_cmd (a b : Cmd) (w : World) : (binOp .neq 77 (cmdV a) (cmdV b)).run Tryz.prog w = .ok (.bool (!(a == b))) w := by
  simp only [binOp]
  simp [Op.equal, Op.maxDepth, eq_cmd 9996]
end Go.Proofs.YtofnehgjkdcmnaaGreatDoor
