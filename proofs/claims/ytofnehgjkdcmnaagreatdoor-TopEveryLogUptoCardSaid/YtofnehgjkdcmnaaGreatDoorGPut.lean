/- The walk of codec.put. -/
import Derived.RangeFuncFrom
import Derived.Test.YtofnehgjkdcmnaaGreatDoorGNum
import Derived.Test.YtofnehgjkdcmnaaGreatDoorGOct2
namespace Go.Proofs.YtofnehgjkdcmnaaGreatDoor
open Go.RowKit Go.Shelf Hg
attribute [local go_sem] Oper.semAt_some

/-- the number in a cell of an entity -/
def numAt (b : Bun) (x : Nat) : Int := match x with
  | 4 => b.x | 5 => b.y | 6 => b.vx | 7 => b.vy | 8 => b.hp | 9 => b.power | _ => b.left

theorem numbers_any (b : Nat) (w : World) : Calls Tryz.prog 106 #[.pointer (some ⟨b, 0, none⟩)] w fun e w' =>
    e = .returned (.func (.func 133) #[] #[.pointer (some ⟨w.heap.size, 0, none⟩)]) ∧ w.alloc (.cells #[.pointer (some ⟨b, 0, none⟩)] 163) = w' := by
  go_enter Tryz.func106, Tryz.ntmps106
  go_wp2
  go_ret
  exact ⟨rfl, rfl⟩


theorem ownFrom_blk {β : Type} (B g : Nat) (t : TypeId) (cs : β → Array Value) : OwnFrom B (fun s W => Blk W g t (cs s)) := by
  intro s W W' row hs hg hr
  refine (hg.block g hs.lt ?_).trans hs
  intro e
  obtain ⟨_, o, ho, hc⟩ := hr g e.symm
  rw [show W.heap[g]? = _ from hs] at ho
  cases ho
  cases hc
theorem ownFrom_chg {β : Type} {n₀ B : Nat} {w : World} (h : n₀ ≤ B) (_hB : B ≤ 0 ∨ True) (hw : w.heap.size = n₀) : OwnFrom B (fun (_ : β) W => Chg [] w W) := by
  intro s W W' row hs hg hr
  refine hs.then_ (Chg.of_grown hg (S := (match row with | some k => [k] | none => [])) (fun k e => by subst e; simp)) ?_
  intro i hi hm
  cases row with
  | none => simp at hm
  | some k =>
    simp at hm
    have := (hr k rfl).1
    omega

def octsAt (b : Bun) (pre : List NumX) : Bytes := pre.flatMap fun x => oct (numAt b x.1)
theorem octsAt_snoc (b : Bun) (pre : List NumX) (x : NumX) : octsAt b (pre ++ [x]) = octsAt b pre ++ oct (numAt b x.1) := by simp [octsAt]
theorem offs_bits (b : Bun) : oct b.mask ++ octsAt b (offs b.mask 7) = eParts b := by
  have h (x : Nat) (hx : 4 ≤ x ∧ x ≤ 10) (c : Bool) (r : List NumX) : octsAt b ((if c then [(⟨x, hx⟩ : NumX)] else []) ++ r) = Hg.part c (oct (numAt b x)) ++ octsAt b r := by cases c <;> simp [octsAt, Hg.part]
  have e : offs b.mask 7 = (if bit b.mask 0 then [(⟨4, by omega⟩ : NumX)] else []) ++ ((if bit b.mask 0 then [(⟨5, by omega⟩ : NumX)] else []) ++ ((if bit b.mask 1 then [(⟨6, by omega⟩ : NumX)] else []) ++ ((if bit b.mask 1 then [(⟨7, by omega⟩ : NumX)] else []) ++ ((if bit b.mask 2 then [(⟨8, by omega⟩ : NumX)] else []) ++ ((if bit b.mask 3 then [(⟨9, by omega⟩ : NumX)] else []) ++ ((if bit b.mask 4 then [(⟨10, by omega⟩ : NumX)] else []) ++ [])))))) := by
    simp only [offs, numTab, List.take_succ_cons, List.take_zero]
    cases h0 : bit b.mask 0 <;> cases h1 : bit b.mask 1 <;> cases h2 : bit b.mask 2 <;> cases h3 : bit b.mask 3 <;> cases h4 : bit b.mask 4 <;> simp [h0, h1, h2, h3, h4]
  rw [e, h, h, h, h, h, h, h]
  simp [octsAt, eParts, numAt]

theorem KeepsOthers.of_chg {W W' : World} (h : Chg [] W W') : KeepsOthers W W' := ⟨h.size, fun k o hk _ => by
  rw [h.block k (Array.getElem?_eq_some_iff.1 hk).1 (by simp)]; exact hk⟩

/-- the cells of an entity -/
abbrev entC (b : Bun) : Array Value := #[i64 b.id.shard, i64 b.id.index, i64 b.id.gen, i64 b.mask, i64 b.x, i64 b.y, i64 b.vx, i64 b.vy, i64 b.hp, i64 b.power, i64 b.left]
theorem entC_at (b : Bun) {x : Nat} (hx : 4 ≤ x ∧ x ≤ 10) : (entC b)[x]? = some (i64 (numAt b x)) := by
  obtain ⟨h4, h10⟩ := hx
  rcases (by omega : x = 4 ∨ x = 5 ∨ x = 6 ∨ x = 7 ∨ x = 8 ∨ x = 9 ∨ x = 10) with rfl | rfl | rfl | rfl | rfl | rfl | rfl <;> rfl
theorem within_i64 {c : Bool} {n lo hi : Int} (h : within c n lo hi = true) (hl : -1125899906842624 ≤ lo) (hh : hi ≤ 1125899906842624) : I64 n := by
  unfold within at h
  unfold I64
  split at h
  · simp at h; omega
  · simp at h; omega
theorem num_i64 {b : Bun} (h : right b = true) {x : Nat} (hx : 4 ≤ x ∧ x ≤ 10) : I64 (numAt b x) := by
  simp only [right, Bool.and_eq_true, decide_eq_true_eq] at h
  obtain ⟨⟨⟨⟨⟨⟨⟨⟨h0, h1⟩, h2⟩, h3⟩, h4⟩, h5⟩, h6⟩, h7⟩, h8⟩ := h
  obtain ⟨h4', h10⟩ := hx
  rcases (by omega : x = 4 ∨ x = 5 ∨ x = 6 ∨ x = 7 ∨ x = 8 ∨ x = 9 ∨ x = 10) with rfl | rfl | rfl | rfl | rfl | rfl | rfl
  · exact within_i64 h2 (by omega) (by omega)
  · exact within_i64 h3 (by omega) (by omega)
  · exact within_i64 h4 (by omega) (by omega)
  · exact within_i64 h5 (by omega) (by omega)
  · exact within_i64 h6 (by omega) (by omega)
  · exact within_i64 h7 (by omega) (by omega)
  · exact within_i64 h8 (by omega) (by omega)

theorem rd_box (w : World) (g : Nat) (hg : g = w.heap.size) (t : TypeId) (v : Value) : Rd (w.alloc (.cells #[v] t)) 1 (some ⟨g, 0, none⟩) 1 [v] := by
  subst hg
  refine ⟨rfl, fun _ => ⟨_, rfl, fun j u hu => ?_⟩⟩
  match j, hu with
  | 0, hu => rw [← hu]; exact (Blk.new w t #[v]).cell 0

theorem octsAt_len {b : Bun} (h : right b = true) (pre : List NumX) : (octsAt b pre).length ≤ pre.length * 9 := by
  have := octs_len (xs := pre.map fun x => numAt b x.1) (fun y hy => by
    obtain ⟨x, _, rfl⟩ := List.mem_map.1 hy
    exact num_i64 h x.2)
  simpa [octs, octsAt, List.flatMap_map] using this

set_option maxHeartbeats 2000000 in
set_option maxRecDepth 100000 in
theorem put_in (b : Bun) (w : World) (h : right b = true) (hI : I64 b.mask) : CallsIn Fence.wide 5 Tryz.prog 69 #[bunV b] w (Ret (strV (eParts b)) w) := by
  have hm : 0 ≤ b.mask ∧ b.mask ≤ 31 := by simp [right] at h; omega
  refine callsIn_of_wp_marks Tryz.func69 rfl trivial ?_ rfl
  simp only [Tryz.ntmps69, List.size_toArray, List.length_cons, List.length_nil, Nat.reduceAdd, Nat.reduceSub, Array.replicate_succ, Array.replicate_zero, List.push_toArray, List.append_toArray, List.nil_append, List.cons_append]
  gi_wp2_with (first
    | (refine ⟨trivial, ?_⟩; gi_at_call 27; refine (callsIn_wide.2 (octInt_any (some ⟨w.heap.size + 1, 0, none⟩) 1 1 [b.mask] _ (rd_box _ _ (by simp) _ _) (by simpa using hI) (by omega))).mono ?_; rintro e w1 ⟨rfl, hg1⟩)
    | (refine ⟨trivial, ?_⟩; gi_at_call 106; refine (callsIn_wide.2 (numbers_any _ _)).mono ?_; rintro e w2 ⟨rfl, rfl⟩))
  obtain ⟨B, hBd⟩ : ∃ B, B = w.heap.size := ⟨_, rfl⟩
  obtain ⟨SB, hSd⟩ : ∃ SB, SB = w1.heap.size := ⟨_, rfl⟩
  rw [← hBd, ← hSd]
  have hE0 : Blk (w.alloc (.cells (entC b) 75)) B 75 (entC b) := by rw [hBd]; exact Blk.new w _ _
  have hE1 := (hE0.alloc (.cells #[i64 b.mask] 3)).chg hg1 (by simp)
  have hS1 : Blk (w1.alloc (.cells #[.string ⟨(octs [b.mask]).toArray⟩] 9)) SB 9 #[.string ⟨(octs [b.mask]).toArray⟩] := by rw [hSd]; exact Blk.new w1 _ _
  have hP1 : Blk ((w1.alloc (.cells #[.string ⟨(octs [b.mask]).toArray⟩] 9)).alloc (.cells #[.pointer (some ⟨B, 0, none⟩)] 163)) (SB + 1) 163 #[.pointer (some ⟨B, 0, none⟩)] := by
    have := Blk.new (w1.alloc (.cells #[.string ⟨(octs [b.mask]).toArray⟩] 9)) 163 #[.pointer (some ⟨B, 0, none⟩)]
    rw [World.size_alloc, ← hSd] at this
    exact this
  have hlt : B < SB := by rw [hSd]; exact hE1.lt
  have hE2 := (hE1.alloc (.cells #[.string ⟨(octs [b.mask]).toArray⟩] 9)).alloc (.cells #[.pointer (some ⟨B, 0, none⟩)] 163)
  have hS2 := hS1.alloc (.cells #[.pointer (some ⟨B, 0, none⟩)] 163)
  have hC2 : Chg [] w ((w1.alloc (.cells #[.string ⟨(octs [b.mask]).toArray⟩] 9)).alloc (.cells #[.pointer (some ⟨B, 0, none⟩)] 163)) := (((((Chg.refl [] w).alloc _).alloc _).then_ hg1 (by simp)).alloc _).alloc _
  have hZ2 : ((w1.alloc (.cells #[.string ⟨(octs [b.mask]).toArray⟩] 9)).alloc (.cells #[.pointer (some ⟨B, 0, none⟩)] 163)).heap.size = SB + 2 := by simp [hSd]
  generalize (w1.alloc (.cells #[.string ⟨(octs [b.mask]).toArray⟩] 9)).alloc (.cells #[.pointer (some ⟨B, 0, none⟩)] 163) = W0 at hE2 hS2 hP1 hC2 hZ2 ⊢
  have hwS : w.heap.size ≤ SB := by rw [hSd]; have := hg1.size; simp at this; omega
  clear hE0 hE1 hS1 hg1 hSd hBd
  refine wpIn_rangeFunc_ownF (F := Fence.wide) rfl (by omega) (gf := 133) (lb := #[.pointer (some ⟨SB + 1, 0, none⟩)]) rfl trivial (enters_of Tryz.func133 (by kernel_rfl) rfl)
    (num_stops [SB] (SB + 1) B b.mask W0 (hP1.cell 0) (by simp) (hE2.cell 3) (by simp; omega) hm.1 hm.2 4 (by omega)) (fun h k => h.trans k) ?kb (Below.refl _ _) (fun _ => rfl)
    (fun pre W => (Blk W B 75 (entC b) ∧ Blk W SB 9 #[strV (octs [b.mask] ++ octsAt b pre)]) ∧ Chg [] w W)
    (fun _ _ _ => False)
    (((ownFrom_blk _ _ _ _).and (ownFrom_blk _ _ _ (fun pre => #[strV (octs [b.mask] ++ octsAt b pre)]))).and (ownFrom_chg (n₀ := w.heap.size) (by have := hC2.size; omega) (.inr trivial) rfl))
    (fun _ _ _ _ _ h _ _ => h)
    ⟨⟨hE2, by simpa [octsAt] using hS2⟩, hC2⟩
    (fun x => { tmps := #[bunV b, .pointer (some ⟨B, 0, none⟩), .string ⟨#[]⟩, .pointer (some ⟨SB, 0, none⟩), .pointer (some ⟨B, x.1, none⟩), .pointer (some ⟨B, 3, none⟩), i64 b.mask, .slice (some ⟨B + 1, 0, none⟩) 1 1, strV (octs [b.mask]),
        .func (.func 133) #[] #[.pointer (some ⟨SB + 1, 0, none⟩)], .pointer (some ⟨B, x.1, none⟩), undef, undef, undef, undef, undef, undef, undef, undef], defers := [] }) ?assign ?body ?done ?stop
  case kb =>
    intro W l o o' hl hlo hc hw p v hp hv
    have hne : p.block ≠ l := by
      rintro rfl
      obtain ⟨obj, ho⟩ : ∃ obj, W.heap[p.block]? = some obj := ⟨_, hlo⟩
      unfold World.cell? at hv
      rw [hlo] at hv
      cases o <;> simp_all [Obj.isCells]
    rw [← hv]
    exact World.cell?_of_block ((grownBy_putObj' W l o').block p.block (cell_lt hv) (by simp; omega))
  case assign =>
    intro l x W K hK
    gi_wp2_with (rw [Oper.semAt_eq _ _ _ (fun c h => by cases h)]; go_simp; try go_bits)
    exact hK
  case body =>
    rintro l pre x W ⟨⟨hE, hS⟩, hC⟩ hpl0
    have hpl : pre.length < 8 := Nat.lt_trans hpl0 (offs_len b.mask 7)
    clear hpl0
    have cS : W.cell? ⟨SB, 0, none⟩ = some (strV (octs [b.mask] ++ octsAt b pre)) := hS.cell 0
    have fS := hS.frozen 0
    have cE : W.cell? ⟨B, x.1, none⟩ = some (i64 (numAt b x.1)) := (hE.cell x.1).trans (entC_at b x.2)
    have hlS := hS.lt
    have hlE := hE.lt
    have hs1 : (octs [b.mask]).length ≤ 1 * 9 := octs_len (by simpa using hI)
    have hs2 : (octs [numAt b x.1]).length ≤ 1 * 9 := octs_len (by simpa using num_i64 h x.2)
    have hs3 : (octsAt b pre).length ≤ pre.length * 9 := octsAt_len h pre
    have hsum : (octs [b.mask]).length + (octsAt b pre).length + (octs [numAt b x.1]).length ≤ 9223372036854775807 := by omega
    have hsum2 : ¬ (9223372036854775807 < (octs [b.mask]).length + (octsAt b pre).length + (octs [numAt b x.1]).length) := by omega
    clear hs1 hs2 hs3
    clear hI hE2 hS2 hP1 hC2 hZ2
    gi_wp2_with fail
    gi_region_with (refine ⟨trivial, ?_⟩; gi_at_call 27; refine (CallsIn.inRound l (callsIn_wide.2 (octInt_any (some ⟨W.heap.size, 0, none⟩) 1 1 [numAt b x.1] _ (rd_box W _ rfl _ _).drew (by simpa using num_i64 h x.2) (by omega)))).mono ?_; rintro e w2 ⟨rfl, hg2⟩; have cS2 := (hg2.cell (p := ⟨SB, 0, none⟩) (by simp; omega) (by simp)); have fS2 := World.frozen?_of_block (a := ⟨SB, 0, none⟩) (hg2.block SB (by simp; omega) (by simp)))
    all_goals (
      have hgW : Chg [] W w2 := ((Chg.refl [] W).alloc _).drew.then_ hg2 (by simp)
      have hgS : Chg [SB] W (w2.setCell ⟨SB, 0, none⟩ (.string (⟨(octs [b.mask] ++ octsAt b pre).toArray⟩ ++ ⟨(octs [numAt b x.1]).toArray⟩))) := (hgW.mono (by simp)).setCell (.inl (by simp)) _
      refine ⟨(KeepsOthers.of_chg hgW).trans (KeepsOthers.setCell _ _ _), fun p v hp hv => ?_, ⟨(hE.chg hgW (by simp)).far (by simp; omega) _, ?_⟩, ?_⟩
      · rw [hgS.cell (cell_lt hv) (by rcases hp with hp | rfl; exact hp; simp; omega)]; exact hv
      · have := (hS.chg hgW (by simp)).set_ 0 (strV (octs [b.mask] ++ octsAt b (pre ++ [x])))
        rw [ByteArray.mk_append_mk, octsAt_snoc] 
        rw [octsAt_snoc] at this
        simpa [octs] using this
      · exact (hC.then_ hgW (by simp)).setCell (.inr hwS) _)
  case done =>
    rintro D xs W hD rfl ⟨⟨hE, hS⟩, hC⟩ hK
    have cS : W.cell? ⟨SB, 0, none⟩ = some (strV (octs [b.mask] ++ octsAt b (offs b.mask 7))) := hS.cell 0
    clear hI hE2 hS2 hP1
    gi_wp2
    refine ⟨by simp, .inl ⟨_, _, rfl, run_takeDeferred hK, ?_⟩⟩
    refine ⟨_, results_tmp rfl _ _ _, ?_, ?_⟩
    · show _ = Ending.returned (strV (eParts b))
      rw [← offs_bits]; simp [octs]
    · exact hC.then_ (S' := [D]) ⟨rfl, rfl, rfl, by simp, fun k hk hn => (grownBy_putObj' W D (.deferred none)).block k hk (by simp at hn ⊢; omega)⟩ (fun i hi hm => by simp at hm; have := hC2.size; omega)
  case stop =>
    rintro D c pre W _ hF h _
    exact h.elim
end Go.Proofs.YtofnehgjkdcmnaaGreatDoor
