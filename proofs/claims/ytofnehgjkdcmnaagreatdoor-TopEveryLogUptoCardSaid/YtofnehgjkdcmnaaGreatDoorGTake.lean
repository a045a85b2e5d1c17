/- The walk of codec.take. -/
import Derived.Test.YtofnehgjkdcmnaaGreatDoorGPut
import Derived.Test.YtofnehgjkdcmnaaGreatDoorGSnd
import Derived.Test.YtofnehgjkdcmnaaGreatDoorGSet
namespace Go.Proofs.YtofnehgjkdcmnaaGreatDoor
open Go.RowKit Go.Shelf Hg
attribute [local go_sem] Oper.semAt_some

/-- the numbers that lie in an entity's cells once these have been read -/
def tk (b : Bun) : List NumX → List NumX → (Nat → Int) → Nat → Int
  | x :: xs, y :: ys, f => tk b xs ys (fun z => if z = x.1 then numAt b y.1 else f z)
  | _, _, f => f

theorem tk_snoc (b : Bun) : ∀ (pre L : List NumX) (f : Nat → Int) (x y : NumX), L[pre.length]? = some y → tk b (pre ++ [x]) L f = fun z => if z = x.1 then numAt b y.1 else tk b pre L f z := by
  intro pre
  induction pre with
  | nil =>
    intro L f x y h
    match L, h with
    | y' :: L, h => simp at h; subst h; simp [tk]
  | cons p pre ih =>
    intro L f x y h
    match L, h with
    | y' :: L, h =>
      simp only [List.length_cons, List.getElem?_cons_succ] at h
      simp only [List.cons_append, tk]
      exact ih L _ x y h

theorem tk_self (b : Bun) : ∀ (L : List NumX) (f : Nat → Int) (z : Nat), tk b L L f z = if (∃ x ∈ L, x.1 = z) then numAt b z else f z := by
  intro L
  induction L with
  | nil => intro f z; simp [tk]
  | cons y L ih =>
    intro f z
    simp only [tk]
    rw [ih]
    by_cases h : ∃ x ∈ L, x.1 = z
    · rw [if_pos h, if_pos (by obtain ⟨x, hx, e⟩ := h; exact ⟨x, by simp [hx], e⟩)]
    · rw [if_neg h]
      by_cases hz : z = y.1
      · rw [if_pos hz, if_pos ⟨y, by simp, hz.symm⟩, hz]
      · rw [if_neg hz, if_neg]
        rintro ⟨x, hx, e⟩
        rcases List.mem_cons.1 hx with rfl | hx
        · exact hz e.symm
        · exact h ⟨x, hx, e⟩

/-- an entity's cells of mask m and numbers f -/
def entF (m : Int) (f : Nat → Int) : Array Value := #[i64 0, i64 0, i64 0, i64 m, i64 (f 4), i64 (f 5), i64 (f 6), i64 (f 7), i64 (f 8), i64 (f 9), i64 (f 10)]
theorem entF_set (m : Int) (f : Nat → Int) (v : Int) {x : Nat} (hx : 4 ≤ x ∧ x ≤ 10) : (entF m f).setIfInBounds x (i64 v) = entF m (fun z => if z = x then v else f z) := by
  obtain ⟨h4, h10⟩ := hx
  rcases (by omega : x = 4 ∨ x = 5 ∨ x = 6 ∨ x = 7 ∨ x = 8 ∨ x = 9 ∨ x = 10) with rfl | rfl | rfl | rfl | rfl | rfl | rfl <;> simp [entF]
theorem entF_at (m : Int) (f : Nat → Int) {x : Nat} (hx : 4 ≤ x ∧ x ≤ 10) : (entF m f)[x]? = some (i64 (f x)) := by
  obtain ⟨h4, h10⟩ := hx
  rcases (by omega : x = 4 ∨ x = 5 ∨ x = 6 ∨ x = 7 ∨ x = 8 ∨ x = 9 ∨ x = 10) with rfl | rfl | rfl | rfl | rfl | rfl | rfl <;> rfl

theorem mem_offs (m : Int) (z : Nat) : (∃ x ∈ offs m 7, x.1 = z) ↔ ((bit m 0 = true ∧ (z = 4 ∨ z = 5)) ∨ (bit m 1 = true ∧ (z = 6 ∨ z = 7)) ∨ (bit m 2 = true ∧ z = 8) ∨ (bit m 3 = true ∧ z = 9) ∨ (bit m 4 = true ∧ z = 10)) := by
  simp only [offs, numTab, List.take_succ_cons, List.take_zero]
  cases h0 : bit m 0 <;> cases h1 : bit m 1 <;> cases h2 : bit m 2 <;> cases h3 : bit m 3 <;> cases h4 : bit m 4 <;> simp [h0, h1, h2, h3, h4] <;> omega

theorem within_zero {c : Bool} {n lo hi : Int} (h : within c n lo hi = true) (hc : c = false) : n = 0 := by
  subst hc
  simpa [within] using h

theorem tk_all {b : Bun} (h : right b = true) : entF b.mask (tk b (offs b.mask 7) (offs b.mask 7) (fun _ => 0)) = entC { b with id := id0 } := by
  have key : ∀ z, 4 ≤ z ∧ z ≤ 10 → tk b (offs b.mask 7) (offs b.mask 7) (fun _ => 0) z = numAt b z := by
    intro z hz
    rw [tk_self]
    split
    · rfl
    · rename_i hn
      rw [mem_offs] at hn
      simp only [right, Bool.and_eq_true, decide_eq_true_eq] at h
      obtain ⟨⟨⟨⟨⟨⟨⟨⟨h0, h1⟩, h2⟩, h3⟩, h4⟩, h5⟩, h6⟩, h7⟩, h8⟩ := h
      obtain ⟨h4', h10⟩ := hz
      rcases (by omega : z = 4 ∨ z = 5 ∨ z = 6 ∨ z = 7 ∨ z = 8 ∨ z = 9 ∨ z = 10) with rfl | rfl | rfl | rfl | rfl | rfl | rfl <;> simp at hn <;> simp only [numAt]
      · exact (within_zero h2 hn).symm
      · exact (within_zero h3 hn).symm
      · exact (within_zero h4 hn).symm
      · exact (within_zero h5 hn).symm
      · exact (within_zero h6 hn).symm
      · exact (within_zero h7 hn).symm
      · exact (within_zero h8 hn).symm
  unfold entF
  rw [key 4 (by omega), key 5 (by omega), key 6 (by omega), key 7 (by omega), key 8 (by omega), key 9 (by omega), key 10 (by omega)]
  rfl

theorem KeepsOthers.of_chg1 {W W' : World} {p : Nat} {t : TypeId} {cs : Array Value} (h : Chg [p] W W') (hp : Blk W p t cs) : KeepsOthers W W' := ⟨h.size, fun k o hk ho => by
  by_cases hkp : k = p
  · subst hkp
    rw [show W.heap[k]? = _ from hp] at hk
    cases hk
    cases ho
  · rw [h.block k (Array.getElem?_eq_some_iff.1 hk).1 (by simpa using hkp)]; exact hk⟩

theorem ownFrom_chg' {β : Type} {S : List Nat} {n₀ B : Nat} {w : World} (h : n₀ ≤ B) (hw : w.heap.size = n₀) : OwnFrom B (fun (_ : β) W => Chg S w W) := by
  intro s W W' row hs hg hr
  refine hs.then_ (Chg.of_grown hg (S := (match row with | some k => [k] | none => [])) (fun k e => by subst e; simp)) ?_
  intro i hi hm
  cases row with
  | none => simp at hm
  | some k =>
    simp at hm
    have := (hr k rfl).1
    omega

set_option maxHeartbeats 4000000 in
set_option maxRecDepth 100000 in
theorem take_in (b : Bun) (rest : Bytes) (p : Nat) (w : World) (hb : right b = true) (h : Rdr w p (eParts b ++ rest)) (hs : rest.length ≤ 1000000000) :
    CallsIn Fence.wide 5 Tryz.prog 77 #[.pointer (some ⟨p, 0, none⟩)] w (RetR (bunV { b with id := id0 }) p rest w) := by
  have hm : 0 ≤ b.mask ∧ b.mask ≤ 31 := by simp [right] at hb; omega
  have hI : I64 b.mask := by unfold I64; omega
  have hp := h.lt
  have d0 : decide (b.mask < 0) = false := by simp; omega
  have d1 : decide (31 < b.mask) = false := by simp; omega
  rw [← offs_bits, List.append_assoc] at h
  have hpl : ∀ n, (octsAt b ((offs b.mask 7).drop n)).length ≤ 72 := fun n => by
    have h1 := octsAt_len hb ((offs b.mask 7).drop n)
    have h2 := offs_len b.mask 7
    have h3 : ((offs b.mask 7).drop n).length ≤ (offs b.mask 7).length := by simp
    omega
  have bb : (octsAt b (offs b.mask 7) ++ rest).length ≤ 1099511627776 := by
    have h0 := hpl 0
    rw [List.drop_zero] at h0
    rw [List.length_append]
    generalize (octsAt b (offs b.mask 7)).length = q at h0 ⊢
    omega
  have h0 : Rdr ((w.alloc (.cells #[.pointer (some ⟨p, 0, none⟩)] 86)).alloc (.cells (entF 0 (fun _ => 0)) 75)) p (oct b.mask ++ (octsAt b (offs b.mask 7) ++ rest)) := Blk.alloc (Blk.alloc h _) _
  have H0 := Lib.hid h0
  have HP := Lib.hid hpl
  have HI := Lib.hid hI
  have HM := Lib.hid hm
  clear h h0 hpl hI hm
  refine callsIn_of_wp_marks Tryz.func77 rfl trivial ?_ rfl
  simp only [Tryz.ntmps77, List.size_toArray, List.length_cons, List.length_nil, Nat.reduceAdd, Nat.reduceSub, Array.replicate_succ, Array.replicate_zero, List.push_toArray, List.append_toArray, List.nil_append, List.cons_append]
  gi_wp2_with (first
    | (refine ⟨trivial, ?_⟩; gi_at_call 38; refine (callsIn_wide.2 (rInt_any b.mask _ p _ HI.out H0.out bb)).mono ?_; rintro e w1 ⟨rfl, hr1, hg1⟩)
    | (refine ⟨trivial, ?_⟩; gi_at_call 106; refine (callsIn_wide.2 (numbers_any _ _)).mono ?_; rintro e w2 ⟨rfl, rfl⟩))
  have hlt1 : w.heap.size + 2 ≤ w1.heap.size := by have := hg1.size; simp at this; omega
  have hpn0 : p ≠ w.heap.size := by omega
  have hpn1 : p ≠ w.heap.size + 1 := by omega
  have hR1 : Blk w1 w.heap.size 86 #[.pointer (some ⟨p, 0, none⟩)] := ((Blk.new w _ _).alloc _).chg hg1 (by simp; omega)
  have hR2 : Blk w1 (w.heap.size + 1) 75 (entF 0 fun _ => 0) := by
    have := Blk.new (w.alloc (.cells #[.pointer (some ⟨p, 0, none⟩)] 86)) 75 (entF 0 fun _ => 0)
    rw [World.size_alloc] at this
    exact this.chg hg1 (by simp; omega)
  have hCw : Chg [p] w w1 := (((Chg.refl [p] w).alloc _).alloc _).trans hg1
  have hpE : p < w1.heap.size := by omega
  obtain ⟨R1, hR1d⟩ : ∃ R1, R1 = w.heap.size := ⟨_, rfl⟩
  obtain ⟨E, hEd⟩ : ∃ E, E = w1.heap.size := ⟨_, rfl⟩
  rw [← hR1d] at hR1 hR2 hpn0 hpn1 hlt1 ⊢
  rw [← hEd] at hlt1 hpE ⊢
  have hE1 : Blk (w1.alloc (.cells (entF b.mask fun _ => 0) 75)) E 75 (entF b.mask fun _ => 0) := by rw [hEd]; exact Blk.new w1 _ _
  have hP1 : Blk ((w1.alloc (.cells (entF b.mask fun _ => 0) 75)).alloc (.cells #[.pointer (some ⟨E, 0, none⟩)] 163)) (E + 1) 163 #[.pointer (some ⟨E, 0, none⟩)] := by
    have := Blk.new (w1.alloc (.cells (entF b.mask fun _ => 0) 75)) 163 #[.pointer (some ⟨E, 0, none⟩)]
    rw [World.size_alloc, ← hEd] at this
    exact this
  have hE2 := hE1.alloc (.cells #[.pointer (some ⟨E, 0, none⟩)] 163)
  have hR3 := (hR1.alloc (.cells (entF b.mask fun _ => 0) 75)).alloc (.cells #[.pointer (some ⟨E, 0, none⟩)] 163)
  have hR4 := (hR2.alloc (.cells (entF b.mask fun _ => 0) 75)).alloc (.cells #[.pointer (some ⟨E, 0, none⟩)] 163)
  have hRd : Rdr _ p _ := Blk.alloc (Blk.alloc hr1 (.cells (entF b.mask fun _ => 0) 75)) (.cells #[.pointer (some ⟨E, 0, none⟩)] 163)
  have hC2 : Chg [p] w _ := (hCw.alloc (.cells (entF b.mask fun _ => 0) 75)).alloc (.cells #[.pointer (some ⟨E, 0, none⟩)] 163)
  have hZ2 : ((w1.alloc (.cells (entF b.mask fun _ => 0) 75)).alloc (.cells #[.pointer (some ⟨E, 0, none⟩)] 163)).heap.size = E + 2 := by simp [hEd]
  change Code.wpIn _ _ _ _ _ _ ((w1.alloc (.cells (entF b.mask fun _ => 0) 75)).alloc (.cells #[.pointer (some ⟨E, 0, none⟩)] 163))
  generalize (w1.alloc (.cells (entF b.mask fun _ => 0) 75)).alloc (.cells #[.pointer (some ⟨E, 0, none⟩)] 163) = W0 at hE2 hR3 hR4 hP1 hC2 hZ2 hRd ⊢
  have hR1w : R1 = w.heap.size := hR1d
  have hRw := Lib.hid hR1w
  clear hE1 hR1 hR2 hg1 hr1 hCw hEd hR1d hR1w H0 bb
  refine wpIn_rangeFunc_ownF (F := Fence.wide) rfl (by omega) (gf := 133) (lb := #[.pointer (some ⟨E + 1, 0, none⟩)]) rfl trivial (enters_of Tryz.func133 (by kernel_rfl) rfl)
    (num_stops [E, p] (E + 1) E b.mask W0 (hP1.cell 0) (by simp; omega) (hE2.cell 3) (by simp; omega) HM.out.1 HM.out.2 4 (by omega)) (fun h k => h.trans k) ?kb (Below.refl _ _) (fun _ => rfl)
    (fun pre W => (((Blk W E 75 (entF b.mask (tk b pre (offs b.mask 7) (fun _ => 0))) ∧ Blk W p 128 #[strV (octsAt b ((offs b.mask 7).drop pre.length) ++ rest), .bool false]) ∧ Blk W R1 86 #[.pointer (some ⟨p, 0, none⟩)]) ∧ Blk W (R1 + 1) 75 (entF 0 fun _ => 0)) ∧ Chg [p] w W)
    (fun _ _ _ => False)
    (((((ownFrom_blk _ _ _ (fun pre => entF b.mask (tk b pre (offs b.mask 7) (fun _ => 0)))).and (ownFrom_blk _ _ _ (fun pre => #[strV (octsAt b ((offs b.mask 7).drop pre.length) ++ rest), .bool false]))).and (ownFrom_blk _ _ _ _)).and (ownFrom_blk _ _ _ _)).and (ownFrom_chg' (n₀ := w.heap.size) (by have := hC2.size; omega) rfl))
    (fun _ _ _ _ _ h _ _ => h)
    ⟨⟨⟨⟨hE2, by rw [List.length_nil, List.drop_zero]; exact hRd⟩, hR3⟩, hR4⟩, hC2⟩
    (fun x => { tmps := #[.pointer (some ⟨p, 0, none⟩), .pointer (some ⟨R1, 0, none⟩), .pointer (some ⟨R1 + 1, 0, none⟩), .pointer (some ⟨E, 0, none⟩), .pointer (some ⟨E, x.1, none⟩), .pointer (some ⟨p, 0, none⟩), i64 b.mask,
        .agg #[i64 0, i64 0, i64 0, i64 b.mask, i64 0, i64 0, i64 0, i64 0, i64 0, i64 0, i64 0], .pointer (some ⟨E, 3, none⟩), i64 b.mask, .bool false, .bool false, .pointer (some ⟨E, 3, none⟩), i64 b.mask, .bool false, .bool false, undef, undef, undef,
        .func (.func 133) #[] #[.pointer (some ⟨E + 1, 0, none⟩)], .pointer (some ⟨E, x.1, none⟩), undef, undef, undef, undef, undef, undef, undef], defers := [] }) ?assign ?body ?done ?stop
  case kb =>
    intro W l o o' hl hlo hc hw p v hp hv
    have hne : p.block ≠ l := by
      rintro rfl
      unfold World.cell? at hv
      rw [hlo] at hv
      cases o <;> simp_all [Obj.isCells]
    rw [← hv]
    exact World.cell?_of_block ((grownBy_putObj' W l o').block p.block (cell_lt hv) (by simp; omega))
  case assign =>
    intro l x W K hK
    gi_wp2_with (rw [Oper.semAt_eq _ _ _ (fun c h => by cases h)]; go_simp; try go_bits)
    exact hK
  case body =>
    rintro l pre x W ⟨⟨⟨⟨hE, hRp⟩, hR1⟩, hR2⟩, hC⟩ hlen
    obtain ⟨y, hy⟩ : ∃ y, (offs b.mask 7)[pre.length]? = some y := ⟨_, List.getElem?_eq_getElem hlen⟩
    have hdr : (offs b.mask 7).drop pre.length = y :: (offs b.mask 7).drop (pre.length + 1) := by
      rw [List.drop_eq_getElem_cons hlen]
      rw [List.getElem?_eq_getElem hlen] at hy
      cases hy; rfl
    have hRp2 : Rdr W p (oct (numAt b y.1) ++ (octsAt b ((offs b.mask 7).drop (pre.length + 1)) ++ rest)) := by
      rw [hdr] at hRp
      have e : octsAt b (y :: (offs b.mask 7).drop (pre.length + 1)) ++ rest = oct (numAt b y.1) ++ (octsAt b ((offs b.mask 7).drop (pre.length + 1)) ++ rest) := by simp [octsAt]
      rw [e] at hRp
      exact hRp
    have hbb : (octsAt b ((offs b.mask 7).drop (pre.length + 1)) ++ rest).length ≤ 1099511627776 := by
      have := HP.out (pre.length + 1)
      rw [List.length_append]
      generalize (octsAt b ((offs b.mask 7).drop (pre.length + 1))).length = q at this ⊢
      omega
    have hts := tk_snoc b pre (offs b.mask 7) (fun _ => 0) x y hy
    have cR : W.cell? ⟨R1, 0, none⟩ = some (.pointer (some ⟨p, 0, none⟩)) := hR1.cell 0
    have hIy := num_i64 hb y.2
    have ri := Lib.hid (rInt_any (numAt b y.1) _ p W hIy hRp2 hbb)
    clear hIy hbb hRp2 hdr hlen HP HI hE2 hR3 hR4 hP1 hC2 hZ2 hRd hy
    have HW := Lib.hid (And.intro hE (And.intro hRp (And.intro hR1 (And.intro hR2 hC))))
    have hEl := hE.lt
    have cE : W.cell? ⟨E, x.1, none⟩ = some (i64 (tk b pre (offs b.mask 7) (fun _ => 0) x.1)) := (hE.cell x.1).trans (entF_at _ _ x.2)
    clear hE hRp hR1 hR2 hC
    gi_wp2_with (first
      | (rw [Oper.semAt_eq _ _ _ (fun c h => by cases h)]; go_simp; try go_bits)
      | (refine ⟨trivial, ?_⟩; gi_at_call 38; refine (CallsIn.inRound l (callsIn_wide.2 ri.out)).mono ?_; rintro e w3 ⟨rfl, hr3, hg3⟩; have cE3 := (hg3.cell (p := ⟨E, x.1, none⟩) hEl (by simp; omega)).trans cE; have fE3 := (HW.out.1.chg hg3 (by simp; omega)).frozen x.1))
    obtain ⟨hE, hRp, hR1, hR2, hC⟩ := HW.out
    have hBE : Blk (w3.setCell ⟨E, x.1, none⟩ (.int .i64 (numAt b y.1))) E 75 (entF b.mask (tk b (pre ++ [x]) (offs b.mask 7) (fun _ => 0))) := by
      have := (hE.chg hg3 (by simp; omega)).set_ x.1 (i64 (numAt b y.1))
      rw [entF_set _ _ _ x.2] at this
      rw [hts]; exact this
    have hW3 : Chg [E, p] W (w3.setCell ⟨E, x.1, none⟩ (.int .i64 (numAt b y.1))) := (hg3.mono (by intro k _ hk; simp at hk ⊢; omega)).setCell (.inl (by simp)) _
    have hEp : E ≠ p := by omega
    have hRE : R1 ≠ E ∧ R1 + 1 ≠ E := by omega
    refine ⟨(KeepsOthers.of_chg1 hg3 hRp).trans (KeepsOthers.setCell _ _ _), fun q v hq hv => ?_, ⟨⟨⟨hBE, ?_⟩, ?_⟩, ?_⟩, ?_⟩
    · rcases hq with hq | rfl
      · rw [hW3.cell (cell_lt hv) hq]; exact hv
      · have e1 : W.cell? ⟨E, 3, none⟩ = some (i64 b.mask) := hE.cell 3
        have e2 : (w3.setCell ⟨E, x.1, none⟩ (.int .i64 (numAt b y.1))).cell? ⟨E, 3, none⟩ = some (i64 b.mask) := hBE.cell 3
        rw [e2, ← hv, e1]
    · have : Blk w3 p 128 #[strV (octsAt b ((offs b.mask 7).drop (pre.length + 1)) ++ rest), .bool false] := hr3
      rw [List.length_append]
      exact this.far (by simpa using Ne.symm hEp) _
    · exact (hR1.chg hg3 (by simpa using Ne.symm hpn0)).far (by simpa using hRE.1) _
    · exact (hR2.chg hg3 (by simpa using Ne.symm hpn1)).far (by simpa using hRE.2) _
    · exact (hC.trans hg3).setCell (.inr (by have := hRw.out; simp; omega)) _
  case done =>
    rintro D xs W hD rfl ⟨⟨⟨⟨hE, hRp⟩, hR1⟩, hR2⟩, hC⟩ hK
    rw [tk_all hb] at hE
    rw [List.drop_length] at hRp
    obtain ⟨b', hb'⟩ : ∃ b' : Bun, b' = { b with id := id0 } := ⟨_, rfl⟩
    rw [← hb'] at hE
    have HB := Lib.hid hb'
    have hRr : Rdr W p rest := hRp
    clear hRp hE2 hR3 hR4 hP1 hC2 hRd HP HI HM hb' d0 d1 hb
    have HW := Lib.hid (And.intro hE (And.intro hRr (And.intro hR1 (And.intro hR2 (And.intro hC hK)))))
    have cR : W.cell? ⟨R1, 0, none⟩ = some (.pointer (some ⟨p, 0, none⟩)) := hR1.cell 0
    have c0 : W.cell? ⟨E, 0, none⟩ = some (i64 b'.id.shard) := hE.cell 0
    have c1 : W.cell? ⟨E, 1, none⟩ = some (i64 b'.id.index) := hE.cell 1
    have c2 : W.cell? ⟨E, 2, none⟩ = some (i64 b'.id.gen) := hE.cell 2
    have c3 : W.cell? ⟨E, 3, none⟩ = some (i64 b'.mask) := hE.cell 3
    have c4 : W.cell? ⟨E, 4, none⟩ = some (i64 b'.x) := hE.cell 4
    have c5 : W.cell? ⟨E, 5, none⟩ = some (i64 b'.y) := hE.cell 5
    have c6 : W.cell? ⟨E, 6, none⟩ = some (i64 b'.vx) := hE.cell 6
    have c7 : W.cell? ⟨E, 7, none⟩ = some (i64 b'.vy) := hE.cell 7
    have c8 : W.cell? ⟨E, 8, none⟩ = some (i64 b'.hp) := hE.cell 8
    have c9 : W.cell? ⟨E, 9, none⟩ = some (i64 b'.power) := hE.cell 9
    have c10 : W.cell? ⟨E, 10, none⟩ = some (i64 b'.left) := hE.cell 10
    have ri := Lib.hid (soundBun_any b' p rest W hRr)
    have hlt2 : R1 + 1 < W.heap.size := hR2.lt
    clear hE hRr hR1 hR2 hC hK
    gi_wp2_with (refine ⟨trivial, ?_⟩; gi_at_call 79; refine (callsIn_wide.2 ri.out).mono ?_; rintro e w5 ⟨rfl, hg5⟩; have hB5 := HW.out.2.2.2.1.chg hg5 (by simp); have f5 := fun j => hB5.frozen j; have q0 : w5.cell? ⟨R1 + 1, 0, none⟩ = some (i64 0) := hB5.cell 0; have q1 : w5.cell? ⟨R1 + 1, 1, none⟩ = some (i64 0) := hB5.cell 1; have q2 : w5.cell? ⟨R1 + 1, 2, none⟩ = some (i64 0) := hB5.cell 2; have q3 : w5.cell? ⟨R1 + 1, 3, none⟩ = some (i64 0) := hB5.cell 3; have q4 : w5.cell? ⟨R1 + 1, 4, none⟩ = some (i64 0) := hB5.cell 4; have q5 : w5.cell? ⟨R1 + 1, 5, none⟩ = some (i64 0) := hB5.cell 5; have q6 : w5.cell? ⟨R1 + 1, 6, none⟩ = some (i64 0) := hB5.cell 6; have q7 : w5.cell? ⟨R1 + 1, 7, none⟩ = some (i64 0) := hB5.cell 7; have q8 : w5.cell? ⟨R1 + 1, 8, none⟩ = some (i64 0) := hB5.cell 8; have q9 : w5.cell? ⟨R1 + 1, 9, none⟩ = some (i64 0) := hB5.cell 9; have q10 : w5.cell? ⟨R1 + 1, 10, none⟩ = some (i64 0) := hB5.cell 10)
    obtain ⟨hE, hRr, hR1, hR2, hC, hK⟩ := HW.out
    have hRf : Rdr w5 p rest := Blk.chg hRr hg5 (by simp)
    have hCf : Chg [p] w w5 := hC.then_ hg5 (by simp)
    have hKf : w5.heap[D]? = some (.deferred (some [])) := (hg5.block D (Array.getElem?_eq_some_iff.1 hK).1 (by simp)).trans hK
    have hDR : D ≠ R1 + 1 := by omega
    refine ⟨by simp, .inl ⟨_, _, rfl, run_takeDeferred (b := D) (ds := []) ?_, ?_⟩⟩
    · exact (setBun_heap (w := w5) b' hDR).trans hKf
    change LeavesInM _ _ _ _ _ _ _ _ ((setBun w5 (R1 + 1) b').putObj D (.deferred none))
    have hBf := setBun_blk b' hB5
    have hRf2 : Rdr (setBun w5 (R1 + 1) b') p rest := setBun_far b' hRf hpn1
    have hCf2 : Chg [p] w (setBun w5 (R1 + 1) b') := setBun_chg b' hCf (.inr (by have := hRw.out; omega))
    have hsz := setBun_size w5 (R1 + 1) b'
    have hgw : ∀ k, k < (setBun w5 (R1 + 1) b').heap.size → k ≠ D → ((setBun w5 (R1 + 1) b').putObj D (.deferred none)).heap[k]? = (setBun w5 (R1 + 1) b').heap[k]? := fun k hk hn => (grownBy_putObj' _ D (.deferred none)).block k hk (by simpa using hn)
    clear hsz
    have hBs := hBf.lt
    have hRs := hRf2.lt
    revert hBf hRf2 hCf2 hgw hBs hRs
    generalize setBun w5 (R1 + 1) b' = WF
    intro hBf hRf2 hCf2 hgw hBs hRs
    clear q0 q1 q2 q3 q4 q5 q6 q7 q8 q9 q10 c0 c1 c2 c3 c4 c5 c6 c7 c8 c9 c10
    refine ⟨_, results_cell_row rfl _ _ (R1 + 1) 75 (entC b') (0, 0) _ rfl ((hgw _ hBf.lt (Ne.symm hDR)).trans hBf) Tryz.underlying75 rfl (by kernel_rfl), ?_, ?_, ?_⟩
    · rw [← HB.out]
    · exact (hgw _ hRf2.lt (by omega)).trans hRf2
    · exact hCf2.then_ (S' := [D]) ⟨rfl, rfl, rfl, by simp, fun k hk hn => hgw k hk (by simpa using hn)⟩ (fun i hi hm => by simp at hm; have := hRw.out; omega)
  case stop =>
    rintro D c pre W _ hF h _
    exact h.elim
end Go.Proofs.YtofnehgjkdcmnaaGreatDoor
