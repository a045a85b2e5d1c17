/- TopEveryLog's arguments: what their readings tell of the memory they lie in. -/
import Derived.Deep.Slices
import Derived.OpenShut
import Derived.Test.YtofnehgjkdcmnaaGreatDoorRows
import Derived.Test.YtofnehgjkdcmnaaGreatDoorGLgLog
import Derived.Test.YtofnehgjkdcmnaaGreatDoorGCm
namespace Go.Proofs.YtofnehgjkdcmnaaGreatDoor
open Go.RowKit Hg

/-- a message, and where its lists lie -/
structure HM where
  m : Msg
  s1 : Option Addr × Nat
  s2 : Option Addr × Nat
  s3 : Option Addr × Nat
abbrev msgC (x : HM) : List Value := [i64 x.m.kind, i64 x.m.t, i64 x.m.n, .slice x.s1.1 x.m.cmds.length x.s1.2, .slice x.s2.1 x.m.buns.length x.s2.2, .slice x.s3.1 x.m.ids.length x.s3.2]

/-- element j of a row of elements of one size -/
theorem flat_get' {α : Type} {enc : α → List Value} {size : Nat} (hs : 0 < size) (he : ∀ x, (enc x).length = size) : ∀ (l : List α) (j : Nat) (u : Value), (l.flatMap enc)[j]? = some u → ∃ x, l[j / size]? = some x ∧ (enc x)[j % size]? = some u
  | [], _, _, h => by simp at h
  | y :: l, j, u, h => by
    rw [List.flatMap_cons] at h
    rcases Nat.lt_or_ge j size with hj | hj
    · rw [List.getElem?_append_left (by rw [he]; exact hj)] at h
      exact ⟨y, by rw [Nat.div_eq_of_lt hj]; rfl, by rw [Nat.mod_eq_of_lt hj]; exact h⟩
    · rw [List.getElem?_append_right (by rw [he]; exact hj), he] at h
      obtain ⟨x, h1, h2⟩ := flat_get' hs he l (j - size) u h
      refine ⟨x, ?_, ?_⟩
      · rw [show j / size = (j - size) / size + 1 by rw [← Nat.sub_add_cancel hj, Nat.add_div_right _ hs, Nat.sub_add_cancel hj]]
        exact h1
      · rw [← h2, Nat.mod_eq_sub_mod hj]

/-- the list of what was found at each index -/
theorem list_of {α : Type} (n : Nat) {p : Nat → α → Prop} (h : ∀ i, i < n → ∃ x, p i x) : ∃ l : List α, l.length = n ∧ ∀ i x, l[i]? = some x → p i x := by
  induction n with
  | zero => exact ⟨[], rfl, by simp⟩
  | succ n ih =>
    obtain ⟨l, hl, hp⟩ := ih (fun i hi => h i (by omega))
    obtain ⟨y, hy⟩ := h n (by omega)
    refine ⟨l ++ [y], by simp [hl], fun i x hx => ?_⟩
    rcases Nat.lt_or_ge i n with hi | hi
    · rw [List.getElem?_append_left (by omega)] at hx
      exact hp i x hx
    · rw [List.getElem?_append_right (by omega)] at hx
      have e : i - l.length = 0 := by
        have := (List.getElem?_eq_some_iff.1 hx).1
        simpa using this
      rw [e] at hx
      simp at hx
      subst hx
      have : i = n := by omega
      rw [this]; exact hy

section
variable {H : Type} {enc : TypeId × Value → H} {W : World}

theorem bulk_len {l : List (DataW H)} : l.length ≤ Rows.uptoBulkAll l := by
  induction l with
  | nil => simp [Rows.uptoBulkAll]
  | cons x r ih =>
    have h1 : 1 ≤ Rows.uptoBulk x := by
      cases x with
      | lit l => cases l <;> simp [Rows.uptoBulk]
      | _ => simp [Rows.uptoBulk]
    simp only [Rows.uptoBulkAll, List.length_cons]; omega
theorem bulk_mem {d : DataW H} {l : List (DataW H)} (h : d ∈ l) : Rows.uptoBulk d ≤ Rows.uptoBulkAll l := by
  induction l with
  | nil => cases h
  | cons x r ih =>
    simp only [Rows.uptoBulkAll]
    cases List.mem_cons.1 h with
    | inl e => subst e; omega
    | inr e => have := ih e; omega

/-- a slice whose elements' cells are known -/
theorem rd_of_slice {α : Type} {en : α → List Value} {size : Nat} {t e : TypeId} (hs : 0 < size) (he : ∀ x, (en x).length = size) (ht : Tryz.prog.underlying t = some (.slice e)) (hc : Tryz.prog.cellsOf e = size) {Q : α → Nat → Prop} {fuel n c : Nat} {A : Option Addr} {x : DataW H × List MemPlace}
    (hel : ∀ m cs y, DataW.trod enc Tryz.prog W 0 (fun _ => true) true m e cs = some y → ∃ z, cs = en z ∧ Q z (Rows.uptoBulk y.1))
    (h : DataW.trod enc Tryz.prog W 0 (fun _ => true) true fuel t [.slice A n c] = some x) :
    ∃ l : List α, l.length = n ∧ Rd W size A n (l.flatMap en) ∧ (∀ z ∈ l, ∃ k, k ≤ Rows.uptoBulk x.1 ∧ Q z k) ∧ n ≤ Rows.uptoBulk x.1 := by
  rcases Deep.open_slice ht h with ⟨hcs, rfl⟩ | ⟨a, len, cap, m, k, D, Pl, hcs, _, hlc, _, hm, rfl, hx⟩
  · simp at hcs
    obtain ⟨rfl, rfl, rfl⟩ := hcs
    exact ⟨[], rfl, Rd.nil_, by simp, Nat.zero_le _⟩
  · simp at hcs
    obtain ⟨rfl, rfl, rfl⟩ := hcs
    rw [hc] at hx
    have hm' : n ≤ m := by rw [hm]; simpa using hlc
    obtain ⟨l, hl, hp⟩ := list_of (α := α) n (p := fun i z => W.cells? 0 (a.add (i * size)) size = some (en z) ∧ Q z (Rows.uptoBulk (D i))) (fun i hi => by
      obtain ⟨cs', h1, h2⟩ := hx i (by omega)
      obtain ⟨z, rfl, hz⟩ := hel _ _ _ h2
      exact ⟨z, h1, hz⟩)
    have hb : ∀ i, i < n → Rows.uptoBulk (D i) ≤ Rows.uptoBulk (DataW.slice ((List.range n).map D) ((List.range (m - n)).map fun j => D (n + j))) := fun i hi => by
      have := bulk_mem (H := H) (List.mem_map.2 ⟨i, List.mem_range.2 hi, rfl⟩ : D i ∈ (List.range n).map D)
      simp only [Rows.uptoBulk]; omega
    refine ⟨l, hl, ⟨?_, fun _ => ⟨a, rfl, fun j u hu => ?_⟩⟩, fun z hz => ?_, ?_⟩
    · rw [← hl]
      clear hp hl
      induction l with
      | nil => simp
      | cons y l ih => rw [List.flatMap_cons, List.length_append, ih, he, List.length_cons, Nat.succ_mul]; omega
    · obtain ⟨z, h1, h2⟩ := flat_get' hs he l j u hu
      have h3 := (World.cells?_some (hp _ _ h1).1).2.2 (j % size) (Nat.mod_lt _ hs)
      rw [add_add, Nat.div_add_mod'] at h3
      rw [h3]; exact h2
    · obtain ⟨i, hi⟩ := List.mem_iff_getElem?.1 hz
      have hlt := (List.getElem?_eq_some_iff.1 hi).1
      exact ⟨_, hb i (by omega), (hp i z hi).2⟩
    · have := bulk_len (H := H) (l := (List.range n).map D)
      simp only [Rows.uptoBulk]
      simp at this
      omega

theorem cell_int {t : TypeId} (ht : Tryz.prog.underlying t = some (.int .i64)) {m : Nat} {cs : List Value} {y : DataW H × List MemPlace} (h : DataW.trod enc Tryz.prog W 0 (fun _ => true) true m t cs = some y) : ∃ k : Int, cs = [i64 k] ∧ I64 k := by
  obtain ⟨n, rfl, rfl, hw⟩ := DataW.trod_int ht h
  refine ⟨n, rfl, ?_⟩
  have := bounds_i64 hw
  exact this

theorem len_3 {l : List Value} (h : l.length = 3) : ∃ a0 a1 a2, l = [a0, a1, a2] := by
  match l, h with
  | [a0, a1, a2], _ => exact ⟨_, _, _, rfl⟩
theorem len_6 {l : List Value} (h : l.length = 6) : ∃ a0 a1 a2 a3 a4 a5, l = [a0, a1, a2, a3, a4, a5] := by
  match l, h with
  | [a0, a1, a2, a3, a4, a5], _ => exact ⟨_, _, _, _, _, _, rfl⟩
theorem len_11 {l : List Value} (h : l.length = 11) : ∃ a0 a1 a2 a3 a4 a5 a6 a7 a8 a9 a10, l = [a0, a1, a2, a3, a4, a5, a6, a7, a8, a9, a10] := by
  match l, h with
  | [a0, a1, a2, a3, a4, a5, a6, a7, a8, a9, a10], _ => exact ⟨_, _, _, _, _, _, _, _, _, _, _, rfl⟩
theorem len_16 {l : List Value} (h : l.length = 16) : ∃ a0 a1 a2 a3 a4 a5 a6 a7 a8 a9 a10 a11 a12 a13 a14 a15, l = [a0, a1, a2, a3, a4, a5, a6, a7, a8, a9, a10, a11, a12, a13, a14, a15] := by
  match l, h with
  | [a0, a1, a2, a3, a4, a5, a6, a7, a8, a9, a10, a11, a12, a13, a14, a15], _ => exact ⟨_, _, _, _, _, _, _, _, _, _, _, _, _, _, _, _, rfl⟩

theorem cells3 : Tryz.prog.cellsOf 3 = 1 := by kernel_rfl
theorem cellsID : Tryz.prog.cellsOf 73 = 3 := by kernel_rfl
theorem cellsBun : Tryz.prog.cellsOf 75 = 11 := by kernel_rfl
theorem cellsCmd : Tryz.prog.cellsOf 77 = 16 := by kernel_rfl
theorem cellsMsg : Tryz.prog.cellsOf 38 = 6 := by kernel_rfl
theorem cellsBool : Tryz.prog.cellsOf 4 = 1 := by kernel_rfl
theorem cellsC : Tryz.prog.cellsOf 34 = 1 ∧ Tryz.prog.cellsOf 35 = 1 ∧ Tryz.prog.cellsOf 36 = 1 := ⟨by kernel_rfl, by kernel_rfl, by kernel_rfl⟩

/-- a field's own reading -/
theorem field_of {P : Program} {fs : Array Field} {m : Nat} {cs : List Value} {xs : List (DataW H × List MemPlace)} (hl : xs.length = fs.size) (hf : ∀ (i : Nat) (f : Field), fs[i]? = some f → DataW.trod enc P W 0 (fun _ => true) true m f.type ((cs.drop f.offset).take (P.cellsOf f.type)) = xs[i]?) (i off : Nat) (t : TypeId) {n : Nat} {f : Field} (hi : fs[i]? = some f) (ht : f.type = t) (ho : f.offset = off) (hc : P.cellsOf t = n) :
    ∃ y, xs[i]? = some y ∧ DataW.trod enc P W 0 (fun _ => true) true m t ((cs.drop off).take n) = some y := by
  subst ht ho hc
  have hlt : i < xs.length := by rw [hl]; exact (Array.getElem?_eq_some_iff.1 hi).1
  exact ⟨xs[i], List.getElem?_eq_getElem hlt, by rw [hf i f hi, List.getElem?_eq_getElem hlt]⟩

theorem cells_id {m : Nat} {cs : List Value} {y : DataW H × List MemPlace} (h : DataW.trod enc Tryz.prog W 0 (fun _ => true) true m 73 cs = some y) : ∃ z : ID, cs = idC z ∧ True := by
  obtain ⟨xs, k, rfl, rfl, hl, hxl, hf⟩ := DataW.trod_struct Tryz.underlying73 h
  rw [cellsID] at hl
  obtain ⟨a, b, c, rfl⟩ := len_3 hl
  obtain ⟨_, _, f0⟩ := field_of hxl hf 0 0 3 rfl rfl rfl cells3
  obtain ⟨_, _, f1⟩ := field_of hxl hf 1 1 3 rfl rfl rfl cells3
  obtain ⟨_, _, f2⟩ := field_of hxl hf 2 2 3 rfl rfl rfl cells3
  obtain ⟨x0, e0, _⟩ := cell_int Tryz.underlying3 f0
  obtain ⟨x1, e1, _⟩ := cell_int Tryz.underlying3 f1
  obtain ⟨x2, e2, _⟩ := cell_int Tryz.underlying3 f2
  simp at e0 e1 e2
  subst e0 e1 e2
  exact ⟨⟨x0, x1, x2⟩, rfl, trivial⟩

theorem cells_bun {m : Nat} {cs : List Value} {y : DataW H × List MemPlace} (h : DataW.trod enc Tryz.prog W 0 (fun _ => true) true m 75 cs = some y) : ∃ z : Bun, cs = bunC z ∧ True := by
  obtain ⟨xs, k, rfl, rfl, hl, hxl, hf⟩ := DataW.trod_struct Tryz.underlying75 h
  rw [cellsBun] at hl
  obtain ⟨a, b, c, d0, d1, d2, d3, d4, d5, d6, d7, rfl⟩ := len_11 hl
  obtain ⟨_, _, f0⟩ := field_of hxl hf 0 0 73 rfl rfl rfl cellsID
  obtain ⟨_, _, f1⟩ := field_of hxl hf 1 3 3 rfl rfl rfl cells3
  obtain ⟨_, _, f2⟩ := field_of hxl hf 2 4 3 rfl rfl rfl cells3
  obtain ⟨_, _, f3⟩ := field_of hxl hf 3 5 3 rfl rfl rfl cells3
  obtain ⟨_, _, f4⟩ := field_of hxl hf 4 6 3 rfl rfl rfl cells3
  obtain ⟨_, _, f5⟩ := field_of hxl hf 5 7 3 rfl rfl rfl cells3
  obtain ⟨_, _, f6⟩ := field_of hxl hf 6 8 3 rfl rfl rfl cells3
  obtain ⟨_, _, f7⟩ := field_of hxl hf 7 9 3 rfl rfl rfl cells3
  obtain ⟨_, _, f8⟩ := field_of hxl hf 8 10 3 rfl rfl rfl cells3
  obtain ⟨x0, e0, _⟩ := cells_id f0
  obtain ⟨x1, e1, _⟩ := cell_int Tryz.underlying3 f1
  obtain ⟨x2, e2, _⟩ := cell_int Tryz.underlying3 f2
  obtain ⟨x3, e3, _⟩ := cell_int Tryz.underlying3 f3
  obtain ⟨x4, e4, _⟩ := cell_int Tryz.underlying3 f4
  obtain ⟨x5, e5, _⟩ := cell_int Tryz.underlying3 f5
  obtain ⟨x6, e6, _⟩ := cell_int Tryz.underlying3 f6
  obtain ⟨x7, e7, _⟩ := cell_int Tryz.underlying3 f7
  obtain ⟨x8, e8, _⟩ := cell_int Tryz.underlying3 f8
  simp at e0 e1 e2 e3 e4 e5 e6 e7 e8
  obtain ⟨rfl, rfl, rfl⟩ := e0
  subst e1 e2 e3 e4 e5 e6 e7 e8
  exact ⟨⟨x0, x1, x2, x3, x4, x5, x6, x7, x8⟩, rfl, trivial⟩

theorem cells_cmd {m : Nat} {cs : List Value} {y : DataW H × List MemPlace} (h : DataW.trod enc Tryz.prog W 0 (fun _ => true) true m 77 cs = some y) : ∃ z : Cmd, cs = cmdC z ∧ True := by
  obtain ⟨xs, k, rfl, rfl, hl, hxl, hf⟩ := DataW.trod_struct Tryz.underlying77 h
  rw [cellsCmd] at hl
  obtain ⟨k0, i0, i1, i2, a, b, c, d0, d1, d2, d3, d4, d5, d6, d7, m0, rfl⟩ := len_16 hl
  obtain ⟨_, _, f0⟩ := field_of hxl hf 0 0 3 rfl rfl rfl cells3
  obtain ⟨_, _, f1⟩ := field_of hxl hf 1 1 73 rfl rfl rfl cellsID
  obtain ⟨_, _, f2⟩ := field_of hxl hf 2 4 75 rfl rfl rfl cellsBun
  obtain ⟨_, _, f3⟩ := field_of hxl hf 3 15 3 rfl rfl rfl cells3
  obtain ⟨x0, e0, _⟩ := cell_int Tryz.underlying3 f0
  obtain ⟨x1, e1, _⟩ := cells_id f1
  obtain ⟨x2, e2, _⟩ := cells_bun f2
  obtain ⟨x3, e3, _⟩ := cell_int Tryz.underlying3 f3
  simp at e0 e1 e2 e3
  obtain ⟨rfl, rfl, rfl⟩ := e1
  obtain ⟨rfl, rfl, rfl, rfl, rfl, rfl, rfl, rfl, rfl, rfl, rfl⟩ := e2
  subst e0 e3
  exact ⟨⟨x0, x1, x2, x3⟩, rfl, trivial⟩

/-- what a message's cells tell -/
def MsgQ (W : World) (x : HM) (k : Nat) : Prop := k ≤ 1048576 → MsgIn W x.m x.s1 x.s2 x.s3

theorem cell_slice {t e : TypeId} (ht : Tryz.prog.underlying t = some (.slice e)) {m : Nat} {cs : List Value} {y : DataW H × List MemPlace} (h : DataW.trod enc Tryz.prog W 0 (fun _ => true) true m t cs = some y) : ∃ a n c, cs = [.slice a n c] := by
  rcases Deep.open_slice ht h with ⟨hcs, rfl⟩ | ⟨a, len, cap, m, k, D, Pl, hcs, _⟩
  · exact ⟨_, _, _, hcs⟩
  · exact ⟨_, _, _, hcs⟩

theorem cells_msg {m : Nat} {cs : List Value} {y : DataW H × List MemPlace} (h : DataW.trod enc Tryz.prog W 0 (fun _ => true) true m 38 cs = some y) : ∃ z : HM, cs = msgC z ∧ MsgQ W z (Rows.uptoBulk y.1) := by
  obtain ⟨xs, k, rfl, rfl, hl, hxl, hf⟩ := DataW.trod_struct Tryz.underlying38 h
  rw [cellsMsg] at hl
  obtain ⟨a, b, c, s1, s2, s3, rfl⟩ := len_6 hl
  obtain ⟨_, _, f0⟩ := field_of hxl hf 0 0 3 rfl rfl rfl cells3
  obtain ⟨_, _, f1⟩ := field_of hxl hf 1 1 3 rfl rfl rfl cells3
  obtain ⟨_, _, f2⟩ := field_of hxl hf 2 2 3 rfl rfl rfl cells3
  obtain ⟨y3, hy3, f3⟩ := field_of hxl hf 3 3 34 rfl rfl rfl cellsC.1
  obtain ⟨y4, hy4, f4⟩ := field_of hxl hf 4 4 35 rfl rfl rfl cellsC.2.1
  obtain ⟨y5, hy5, f5⟩ := field_of hxl hf 5 5 36 rfl rfl rfl cellsC.2.2
  obtain ⟨x0, e0, _⟩ := cell_int Tryz.underlying3 f0
  obtain ⟨x1, e1, _⟩ := cell_int Tryz.underlying3 f1
  obtain ⟨x2, e2, _⟩ := cell_int Tryz.underlying3 f2
  obtain ⟨a1, n1, c1, e3⟩ := cell_slice Tryz.underlying34 f3
  obtain ⟨a2, n2, c2, e4⟩ := cell_slice Tryz.underlying35 f4
  obtain ⟨a3, n3, c3, e5⟩ := cell_slice Tryz.underlying36 f5
  simp at e0 e1 e2 e3 e4 e5
  subst e0 e1 e2 e3 e4 e5
  obtain ⟨l1, hl1, r1, _, b1⟩ := rd_of_slice (en := cmdC) (size := 16) (Q := fun _ _ => True) (by omega) (fun _ => rfl) Tryz.underlying34 cellsCmd (fun m cs y h => cells_cmd h) f3
  obtain ⟨l2, hl2, r2, _, b2⟩ := rd_of_slice (en := bunC) (size := 11) (Q := fun _ _ => True) (by omega) (fun _ => rfl) Tryz.underlying35 cellsBun (fun m cs y h => cells_bun h) f4
  obtain ⟨l3, hl3, r3, _, b3⟩ := rd_of_slice (en := idC) (size := 3) (Q := fun _ _ => True) (by omega) (fun _ => rfl) Tryz.underlying36 cellsID (fun m cs y h => cells_id h) f5
  subst hl1 hl2 hl3
  refine ⟨⟨⟨x0, x1, x2, l1, l2, l3⟩, (a1, c1), (a2, c2), (a3, c3)⟩, rfl, fun hk => ⟨r1, r2, r3, ?_⟩⟩
  have m3 := bulk_mem (List.mem_map.2 ⟨y3, List.mem_of_getElem? hy3, rfl⟩ : y3.1 ∈ xs.map (·.1))
  have m4 := bulk_mem (List.mem_map.2 ⟨y4, List.mem_of_getElem? hy4, rfl⟩ : y4.1 ∈ xs.map (·.1))
  have m5 := bulk_mem (List.mem_map.2 ⟨y5, List.mem_of_getElem? hy5, rfl⟩ : y5.1 ∈ xs.map (·.1))
  simp only [Rows.uptoBulk] at hk
  refine ⟨?_, ?_, ?_⟩ <;> (dsimp only; omega)

/-- a slice of messages, as an argument -/
theorem open_msgs {A : Option Addr} {n c : Nat} {d : DataW H} {p : List MemPlace} (h : DataW.Trod enc Tryz.prog W 0 (fun _ => true) true 22 (.slice A n c) d p) (hb : Rows.uptoBulk d ≤ 1048576) :
    ∃ xs : List HM, Rd W 6 A n (xs.flatMap msgC) ∧ (∀ x ∈ xs, MsgIn W x.m x.s1 x.s2 x.s3) ∧ xs.length = n ∧ n ≤ Rows.uptoBulk d := by
  obtain ⟨fuel, hf⟩ := h
  obtain ⟨l, hl, r, q, b⟩ := rd_of_slice (en := msgC) (size := 6) (Q := MsgQ W) (by omega) (fun _ => rfl) Tryz.underlying22 cellsMsg (fun m cs y h => cells_msg h) hf
  exact ⟨l, r, fun x hx => by obtain ⟨k, hk, hq⟩ := q x hx; exact hq (Nat.le_trans hk hb), hl, b⟩
theorem bools_flat (l : List Bool) : l.flatMap (fun x => [Value.bool x]) = l.map .bool := by
  induction l with
  | nil => rfl
  | cons x l ih => rw [List.flatMap_cons, ih]; rfl
/-- a slice of bools, as an argument -/
theorem open_bools {A : Option Addr} {n c : Nat} {d : DataW H} {p : List MemPlace} (h : DataW.Trod enc Tryz.prog W 0 (fun _ => true) true 23 (.slice A n c) d p) :
    ∃ bs : List Bool, Rd W 1 A n (bs.map .bool) ∧ bs.length = n ∧ n ≤ Rows.uptoBulk d := by
  obtain ⟨fuel, hf⟩ := h
  obtain ⟨l, hl, r, _, b⟩ := rd_of_slice (α := Bool) (en := fun x => [.bool x]) (size := 1) (Q := fun _ _ => True) (by omega) (fun _ => rfl) Tryz.underlying23 cellsBool (fun m cs y h => by obtain ⟨b, rfl, _⟩ := DataW.trod_bool Tryz.underlying4 h; exact ⟨b, rfl, trivial⟩) hf
  refine ⟨l, ?_, hl, b⟩
  rw [← bools_flat l]; exact r
/-- a number, as an argument -/
theorem open_int {k : Int} {d : DataW H} {p : List MemPlace} (h : DataW.Trod enc Tryz.prog W 0 (fun _ => true) true 3 (i64 k) d p) : I64 k := by
  obtain ⟨fuel, hf⟩ := h
  obtain ⟨k', e, hk⟩ := cell_int Tryz.underlying3 hf
  have : k = k' := by simpa [Value.cells] using e
  rw [this]; exact hk
end
end Go.Proofs.YtofnehgjkdcmnaaGreatDoor
