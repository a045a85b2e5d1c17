/- TopEveryMail's arguments: what their readings tell of the memory they lie in. -/
import Derived.Deep.Slices
import Derived.OpenShut
import Derived.Test.YteajdkneiejlaaaRows
import Derived.Test.YteajdkneiejlaaaGPair
import Derived.Test.YteajdkneiejlaaaGLawD
namespace Go.Proofs.Yteajdkneiejlaaa
open Go.RowKit Hg

structure Mail where
  kind : Int
  who : Int
  k : Int
abbrev mailC (x : Mail) : List Value := [i64 x.kind, i64 x.who, i64 x.k]

/-- element j of a row of elements of one size -/
theorem flat_get' {α : Type} {enc : α → List Value} {size : Nat} (hs : 0 < size) (he : ∀ x, (enc x).length = size) : ∀ (l : List α) (j : Nat) (u : Value), (l.flatMap enc)[j]? = some u → ∃ x, l[j / size]? = some x ∧ (enc x)[j % size]? = some u
  | [], _, _, h => by simp at h
  | y :: l, j, u, h => by
    rw [List.flatMap_cons] at h
    rcases Nat.lt_or_ge j size with hj | hj
    · rw [List.getElem?_append_left (by rw [he]; exact hj)] at h
      exact ⟨y, by rw [Nat.div_eq_of_lt hj]; rfl, by rw [Nat.mod_eq_of_lt hj]; exact h⟩
    · rw [List.getElem?_append_right (by rw [he]; exact hj), he] at h
      obtain ⟨x, h1, h2⟩ := flat_get' hs he l (j - size) u h
      refine ⟨x, ?_, ?_⟩
      · rw [show j / size = (j - size) / size + 1 by rw [← Nat.sub_add_cancel hj, Nat.add_div_right _ hs, Nat.sub_add_cancel hj]]
        exact h1
      · rw [← h2, Nat.mod_eq_sub_mod hj]

/-- the list of what was found at each index -/
theorem list_of {α : Type} (n : Nat) {p : Nat → α → Prop} (h : ∀ i, i < n → ∃ x, p i x) : ∃ l : List α, l.length = n ∧ ∀ i x, l[i]? = some x → p i x := by
  induction n with
  | zero => exact ⟨[], rfl, by simp⟩
  | succ n ih =>
    obtain ⟨l, hl, hp⟩ := ih (fun i hi => h i (by omega))
    obtain ⟨y, hy⟩ := h n (by omega)
    refine ⟨l ++ [y], by simp [hl], fun i x hx => ?_⟩
    rcases Nat.lt_or_ge i n with hi | hi
    · rw [List.getElem?_append_left (by omega)] at hx
      exact hp i x hx
    · rw [List.getElem?_append_right (by omega)] at hx
      have e : i - l.length = 0 := by
        have := (List.getElem?_eq_some_iff.1 hx).1
        simpa using this
      rw [e] at hx
      simp at hx
      subst hx
      have : i = n := by omega
      rw [this]; exact hy

section
variable {H : Type} {enc : TypeId × Value → H} {W : World}

theorem bulk_len {l : List (DataW H)} : l.length ≤ Rows.uptoBulkAll l := by
  induction l with
  | nil => simp [Rows.uptoBulkAll]
  | cons x r ih =>
    have h1 : 1 ≤ Rows.uptoBulk x := by
      cases x with
      | lit l => cases l <;> simp [Rows.uptoBulk]
      | _ => simp [Rows.uptoBulk]
    simp only [Rows.uptoBulkAll, List.length_cons]; omega
theorem bulk_mem {d : DataW H} {l : List (DataW H)} (h : d ∈ l) : Rows.uptoBulk d ≤ Rows.uptoBulkAll l := by
  induction l with
  | nil => cases h
  | cons x r ih =>
    simp only [Rows.uptoBulkAll]
    cases List.mem_cons.1 h with
    | inl e => subst e; omega
    | inr e => have := ih e; omega

/-- a slice whose elements' cells are known -/
theorem rd_of_slice {α : Type} {en : α → List Value} {size : Nat} {t e : TypeId} (hs : 0 < size) (he : ∀ x, (en x).length = size) (ht : Try.prog.underlying t = some (.slice e)) (hc : Try.prog.cellsOf e = size) {Q : α → Nat → Prop} {fuel n c : Nat} {A : Option Addr} {x : DataW H × List MemPlace}
    (hel : ∀ m cs y, DataW.trod enc Try.prog W 0 (fun _ => true) true m e cs = some y → ∃ z, cs = en z ∧ Q z (Rows.uptoBulk y.1))
    (h : DataW.trod enc Try.prog W 0 (fun _ => true) true fuel t [.slice A n c] = some x) :
    ∃ l : List α, l.length = n ∧ Rd W size A n (l.flatMap en) ∧ (∀ z ∈ l, ∃ k, k ≤ Rows.uptoBulk x.1 ∧ Q z k) ∧ n ≤ Rows.uptoBulk x.1 := by
  rcases Deep.open_slice ht h with ⟨hcs, rfl⟩ | ⟨a, len, cap, m, k, D, Pl, hcs, _, hlc, _, hm, rfl, hx⟩
  · simp at hcs
    obtain ⟨rfl, rfl, rfl⟩ := hcs
    exact ⟨[], rfl, Rd.nil_, by simp, Nat.zero_le _⟩
  · simp at hcs
    obtain ⟨rfl, rfl, rfl⟩ := hcs
    rw [hc] at hx
    have hm' : n ≤ m := by rw [hm]; simpa using hlc
    obtain ⟨l, hl, hp⟩ := list_of (α := α) n (p := fun i z => W.cells? 0 (a.add (i * size)) size = some (en z) ∧ Q z (Rows.uptoBulk (D i))) (fun i hi => by
      obtain ⟨cs', h1, h2⟩ := hx i (by omega)
      obtain ⟨z, rfl, hz⟩ := hel _ _ _ h2
      exact ⟨z, h1, hz⟩)
    have hb : ∀ i, i < n → Rows.uptoBulk (D i) ≤ Rows.uptoBulk (DataW.slice ((List.range n).map D) ((List.range (m - n)).map fun j => D (n + j))) := fun i hi => by
      have := bulk_mem (H := H) (List.mem_map.2 ⟨i, List.mem_range.2 hi, rfl⟩ : D i ∈ (List.range n).map D)
      simp only [Rows.uptoBulk]; omega
    refine ⟨l, hl, ⟨?_, fun _ => ⟨a, rfl, fun j u hu => ?_⟩⟩, fun z hz => ?_, ?_⟩
    · rw [← hl]
      clear hp hl
      induction l with
      | nil => simp
      | cons y l ih => rw [List.flatMap_cons, List.length_append, ih, he, List.length_cons, Nat.succ_mul]; omega
    · obtain ⟨z, h1, h2⟩ := flat_get' hs he l j u hu
      have h3 := (World.cells?_some (hp _ _ h1).1).2.2 (j % size) (Nat.mod_lt _ hs)
      rw [add_add, Nat.div_add_mod'] at h3
      rw [h3]; exact h2
    · obtain ⟨i, hi⟩ := List.mem_iff_getElem?.1 hz
      have hlt := (List.getElem?_eq_some_iff.1 hi).1
      exact ⟨_, hb i (by omega), (hp i z hi).2⟩
    · have := bulk_len (H := H) (l := (List.range n).map D)
      simp only [Rows.uptoBulk]
      simp at this
      omega

theorem cell_int {t : TypeId} (ht : Try.prog.underlying t = some (.int .i64)) {m : Nat} {cs : List Value} {y : DataW H × List MemPlace} (h : DataW.trod enc Try.prog W 0 (fun _ => true) true m t cs = some y) : ∃ k : Int, cs = [i64 k] ∧ I64 k := by
  obtain ⟨n, rfl, rfl, hw⟩ := DataW.trod_int ht h
  refine ⟨n, rfl, ?_⟩
  have := bounds_i64 hw
  exact this

theorem len_3 {l : List Value} (h : l.length = 3) : ∃ a0 a1 a2, l = [a0, a1, a2] := by
  match l, h with
  | [a0, a1, a2], _ => exact ⟨_, _, _, rfl⟩
theorem len_6 {l : List Value} (h : l.length = 6) : ∃ a0 a1 a2 a3 a4 a5, l = [a0, a1, a2, a3, a4, a5] := by
  match l, h with
  | [a0, a1, a2, a3, a4, a5], _ => exact ⟨_, _, _, _, _, _, rfl⟩
theorem len_11 {l : List Value} (h : l.length = 11) : ∃ a0 a1 a2 a3 a4 a5 a6 a7 a8 a9 a10, l = [a0, a1, a2, a3, a4, a5, a6, a7, a8, a9, a10] := by
  match l, h with
  | [a0, a1, a2, a3, a4, a5, a6, a7, a8, a9, a10], _ => exact ⟨_, _, _, _, _, _, _, _, _, _, _, rfl⟩
theorem len_16 {l : List Value} (h : l.length = 16) : ∃ a0 a1 a2 a3 a4 a5 a6 a7 a8 a9 a10 a11 a12 a13 a14 a15, l = [a0, a1, a2, a3, a4, a5, a6, a7, a8, a9, a10, a11, a12, a13, a14, a15] := by
  match l, h with
  | [a0, a1, a2, a3, a4, a5, a6, a7, a8, a9, a10, a11, a12, a13, a14, a15], _ => exact ⟨_, _, _, _, _, _, _, _, _, _, _, _, _, _, _, _, rfl⟩

theorem cells3 : Try.prog.cellsOf 3 = 1 := by kernel_rfl
theorem cellsID : Try.prog.cellsOf 95 = 3 := by kernel_rfl
theorem cellsBun : Try.prog.cellsOf 97 = 11 := by kernel_rfl
theorem cellsCmd : Try.prog.cellsOf 99 = 16 := by kernel_rfl
theorem cellsMsg : Try.prog.cellsOf 36 = 6 := by kernel_rfl
theorem cellsMail : Try.prog.cellsOf 30 = 3 := by kernel_rfl
theorem cellsC : Try.prog.cellsOf 32 = 1 ∧ Try.prog.cellsOf 33 = 1 ∧ Try.prog.cellsOf 34 = 1 := ⟨by kernel_rfl, by kernel_rfl, by kernel_rfl⟩

/-- a field's own reading -/
theorem field_of {P : Program} {fs : Array Field} {m : Nat} {cs : List Value} {xs : List (DataW H × List MemPlace)} (hl : xs.length = fs.size) (hf : ∀ (i : Nat) (f : Field), fs[i]? = some f → DataW.trod enc P W 0 (fun _ => true) true m f.type ((cs.drop f.offset).take (P.cellsOf f.type)) = xs[i]?) (i off : Nat) (t : TypeId) {n : Nat} {f : Field} (hi : fs[i]? = some f) (ht : f.type = t) (ho : f.offset = off) (hc : P.cellsOf t = n) :
    ∃ y, xs[i]? = some y ∧ DataW.trod enc P W 0 (fun _ => true) true m t ((cs.drop off).take n) = some y := by
  subst ht ho hc
  have hlt : i < xs.length := by rw [hl]; exact (Array.getElem?_eq_some_iff.1 hi).1
  exact ⟨xs[i], List.getElem?_eq_getElem hlt, by rw [hf i f hi, List.getElem?_eq_getElem hlt]⟩

theorem cells_id {m : Nat} {cs : List Value} {y : DataW H × List MemPlace} (h : DataW.trod enc Try.prog W 0 (fun _ => true) true m 95 cs = some y) : ∃ z : ID, cs = idC z ∧ True := by
  obtain ⟨xs, k, rfl, rfl, hl, hxl, hf⟩ := DataW.trod_struct Try.underlying95 h
  rw [cellsID] at hl
  obtain ⟨a, b, c, rfl⟩ := len_3 hl
  obtain ⟨_, _, f0⟩ := field_of hxl hf 0 0 3 rfl rfl rfl cells3
  obtain ⟨_, _, f1⟩ := field_of hxl hf 1 1 3 rfl rfl rfl cells3
  obtain ⟨_, _, f2⟩ := field_of hxl hf 2 2 3 rfl rfl rfl cells3
  obtain ⟨x0, e0, _⟩ := cell_int Try.underlying3 f0
  obtain ⟨x1, e1, _⟩ := cell_int Try.underlying3 f1
  obtain ⟨x2, e2, _⟩ := cell_int Try.underlying3 f2
  simp at e0 e1 e2
  subst e0 e1 e2
  exact ⟨⟨x0, x1, x2⟩, rfl, trivial⟩

theorem cells_bun {m : Nat} {cs : List Value} {y : DataW H × List MemPlace} (h : DataW.trod enc Try.prog W 0 (fun _ => true) true m 97 cs = some y) : ∃ z : Bun, cs = bunC z ∧ True := by
  obtain ⟨xs, k, rfl, rfl, hl, hxl, hf⟩ := DataW.trod_struct Try.underlying97 h
  rw [cellsBun] at hl
  obtain ⟨a, b, c, d0, d1, d2, d3, d4, d5, d6, d7, rfl⟩ := len_11 hl
  obtain ⟨_, _, f0⟩ := field_of hxl hf 0 0 95 rfl rfl rfl cellsID
  obtain ⟨_, _, f1⟩ := field_of hxl hf 1 3 3 rfl rfl rfl cells3
  obtain ⟨_, _, f2⟩ := field_of hxl hf 2 4 3 rfl rfl rfl cells3
  obtain ⟨_, _, f3⟩ := field_of hxl hf 3 5 3 rfl rfl rfl cells3
  obtain ⟨_, _, f4⟩ := field_of hxl hf 4 6 3 rfl rfl rfl cells3
  obtain ⟨_, _, f5⟩ := field_of hxl hf 5 7 3 rfl rfl rfl cells3
  obtain ⟨_, _, f6⟩ := field_of hxl hf 6 8 3 rfl rfl rfl cells3
  obtain ⟨_, _, f7⟩ := field_of hxl hf 7 9 3 rfl rfl rfl cells3
  obtain ⟨_, _, f8⟩ := field_of hxl hf 8 10 3 rfl rfl rfl cells3
  obtain ⟨x0, e0, _⟩ := cells_id f0
  obtain ⟨x1, e1, _⟩ := cell_int Try.underlying3 f1
  obtain ⟨x2, e2, _⟩ := cell_int Try.underlying3 f2
  obtain ⟨x3, e3, _⟩ := cell_int Try.underlying3 f3
  obtain ⟨x4, e4, _⟩ := cell_int Try.underlying3 f4
  obtain ⟨x5, e5, _⟩ := cell_int Try.underlying3 f5
  obtain ⟨x6, e6, _⟩ := cell_int Try.underlying3 f6
  obtain ⟨x7, e7, _⟩ := cell_int Try.underlying3 f7
  obtain ⟨x8, e8, _⟩ := cell_int Try.underlying3 f8
  simp at e0 e1 e2 e3 e4 e5 e6 e7 e8
  obtain ⟨rfl, rfl, rfl⟩ := e0
  subst e1 e2 e3 e4 e5 e6 e7 e8
  exact ⟨⟨x0, x1, x2, x3, x4, x5, x6, x7, x8⟩, rfl, trivial⟩

theorem cells_cmd {m : Nat} {cs : List Value} {y : DataW H × List MemPlace} (h : DataW.trod enc Try.prog W 0 (fun _ => true) true m 99 cs = some y) : ∃ z : Cmd, cs = cmdC z ∧ True := by
  obtain ⟨xs, k, rfl, rfl, hl, hxl, hf⟩ := DataW.trod_struct Try.underlying99 h
  rw [cellsCmd] at hl
  obtain ⟨k0, i0, i1, i2, a, b, c, d0, d1, d2, d3, d4, d5, d6, d7, m0, rfl⟩ := len_16 hl
  obtain ⟨_, _, f0⟩ := field_of hxl hf 0 0 3 rfl rfl rfl cells3
  obtain ⟨_, _, f1⟩ := field_of hxl hf 1 1 95 rfl rfl rfl cellsID
  obtain ⟨_, _, f2⟩ := field_of hxl hf 2 4 97 rfl rfl rfl cellsBun
  obtain ⟨_, _, f3⟩ := field_of hxl hf 3 15 3 rfl rfl rfl cells3
  obtain ⟨x0, e0, _⟩ := cell_int Try.underlying3 f0
  obtain ⟨x1, e1, _⟩ := cells_id f1
  obtain ⟨x2, e2, _⟩ := cells_bun f2
  obtain ⟨x3, e3, _⟩ := cell_int Try.underlying3 f3
  simp at e0 e1 e2 e3
  obtain ⟨rfl, rfl, rfl⟩ := e1
  obtain ⟨rfl, rfl, rfl, rfl, rfl, rfl, rfl, rfl, rfl, rfl, rfl⟩ := e2
  subst e0 e3
  exact ⟨⟨x0, x1, x2, x3⟩, rfl, trivial⟩

/-- what a message's cells tell -/
def MsgQ (W : World) (x : HM) (k : Nat) : Prop := k ≤ 1048576 → MsgIn W x.m x.s1 x.s2 x.s3

theorem cell_slice {t e : TypeId} (ht : Try.prog.underlying t = some (.slice e)) {m : Nat} {cs : List Value} {y : DataW H × List MemPlace} (h : DataW.trod enc Try.prog W 0 (fun _ => true) true m t cs = some y) : ∃ a n c, cs = [.slice a n c] := by
  rcases Deep.open_slice ht h with ⟨hcs, rfl⟩ | ⟨a, len, cap, m, k, D, Pl, hcs, _⟩
  · exact ⟨_, _, _, hcs⟩
  · exact ⟨_, _, _, hcs⟩

theorem cells_msg {m : Nat} {cs : List Value} {y : DataW H × List MemPlace} (h : DataW.trod enc Try.prog W 0 (fun _ => true) true m 36 cs = some y) : ∃ z : HM, cs = msgC z ∧ MsgQ W z (Rows.uptoBulk y.1) := by
  obtain ⟨xs, k, rfl, rfl, hl, hxl, hf⟩ := DataW.trod_struct Try.underlying36 h
  rw [cellsMsg] at hl
  obtain ⟨a, b, c, s1, s2, s3, rfl⟩ := len_6 hl
  obtain ⟨_, _, f0⟩ := field_of hxl hf 0 0 3 rfl rfl rfl cells3
  obtain ⟨_, _, f1⟩ := field_of hxl hf 1 1 3 rfl rfl rfl cells3
  obtain ⟨_, _, f2⟩ := field_of hxl hf 2 2 3 rfl rfl rfl cells3
  obtain ⟨y3, hy3, f3⟩ := field_of hxl hf 3 3 32 rfl rfl rfl cellsC.1
  obtain ⟨y4, hy4, f4⟩ := field_of hxl hf 4 4 33 rfl rfl rfl cellsC.2.1
  obtain ⟨y5, hy5, f5⟩ := field_of hxl hf 5 5 34 rfl rfl rfl cellsC.2.2
  obtain ⟨x0, e0, _⟩ := cell_int Try.underlying3 f0
  obtain ⟨x1, e1, _⟩ := cell_int Try.underlying3 f1
  obtain ⟨x2, e2, _⟩ := cell_int Try.underlying3 f2
  obtain ⟨a1, n1, c1, e3⟩ := cell_slice Try.underlying32 f3
  obtain ⟨a2, n2, c2, e4⟩ := cell_slice Try.underlying33 f4
  obtain ⟨a3, n3, c3, e5⟩ := cell_slice Try.underlying34 f5
  simp at e0 e1 e2 e3 e4 e5
  subst e0 e1 e2 e3 e4 e5
  obtain ⟨l1, hl1, r1, _, b1⟩ := rd_of_slice (en := cmdC) (size := 16) (Q := fun _ _ => True) (by omega) (fun _ => rfl) Try.underlying32 cellsCmd (fun m cs y h => cells_cmd h) f3
  obtain ⟨l2, hl2, r2, _, b2⟩ := rd_of_slice (en := bunC) (size := 11) (Q := fun _ _ => True) (by omega) (fun _ => rfl) Try.underlying33 cellsBun (fun m cs y h => cells_bun h) f4
  obtain ⟨l3, hl3, r3, _, b3⟩ := rd_of_slice (en := idC) (size := 3) (Q := fun _ _ => True) (by omega) (fun _ => rfl) Try.underlying34 cellsID (fun m cs y h => cells_id h) f5
  subst hl1 hl2 hl3
  refine ⟨⟨⟨x0, x1, x2, l1, l2, l3⟩, (a1, c1), (a2, c2), (a3, c3)⟩, rfl, fun hk => ⟨r1, r2, r3, ?_⟩⟩
  have m3 := bulk_mem (List.mem_map.2 ⟨y3, List.mem_of_getElem? hy3, rfl⟩ : y3.1 ∈ xs.map (·.1))
  have m4 := bulk_mem (List.mem_map.2 ⟨y4, List.mem_of_getElem? hy4, rfl⟩ : y4.1 ∈ xs.map (·.1))
  have m5 := bulk_mem (List.mem_map.2 ⟨y5, List.mem_of_getElem? hy5, rfl⟩ : y5.1 ∈ xs.map (·.1))
  simp only [Rows.uptoBulk] at hk
  refine ⟨?_, ?_, ?_⟩ <;> (dsimp only; omega)

theorem cells_mail {m : Nat} {cs : List Value} {y : DataW H × List MemPlace} (h : DataW.trod enc Try.prog W 0 (fun _ => true) true m 30 cs = some y) : ∃ z : Mail, cs = mailC z ∧ (I64 z.kind ∧ I64 z.who ∧ I64 z.k) := by
  obtain ⟨xs, k, rfl, rfl, hl, hxl, hf⟩ := DataW.trod_struct Try.underlying30 h
  rw [cellsMail] at hl
  obtain ⟨a, b, c, rfl⟩ := len_3 hl
  obtain ⟨_, _, f0⟩ := field_of hxl hf 0 0 3 rfl rfl rfl cells3
  obtain ⟨_, _, f1⟩ := field_of hxl hf 1 1 3 rfl rfl rfl cells3
  obtain ⟨_, _, f2⟩ := field_of hxl hf 2 2 3 rfl rfl rfl cells3
  obtain ⟨x0, e0, w0⟩ := cell_int Try.underlying3 f0
  obtain ⟨x1, e1, w1⟩ := cell_int Try.underlying3 f1
  obtain ⟨x2, e2, w2⟩ := cell_int Try.underlying3 f2
  simp at e0 e1 e2
  subst e0 e1 e2
  exact ⟨⟨x0, x1, x2⟩, rfl, w0, w1, w2⟩

/-- a slice of messages, as an argument -/
theorem open_msgs {A : Option Addr} {n c : Nat} {d : DataW H} {p : List MemPlace} (h : DataW.Trod enc Try.prog W 0 (fun _ => true) true 22 (.slice A n c) d p) (hb : Rows.uptoBulk d ≤ 1048576) :
    ∃ xs : List HM, Rd W 6 A n (xs.flatMap msgC) ∧ (∀ x ∈ xs, MsgIn W x.m x.s1 x.s2 x.s3) ∧ xs.length = n ∧ n ≤ Rows.uptoBulk d := by
  obtain ⟨fuel, hf⟩ := h
  obtain ⟨l, hl, r, q, b⟩ := rd_of_slice (en := msgC) (size := 6) (Q := MsgQ W) (by omega) (fun _ => rfl) Try.underlying22 cellsMsg (fun m cs y h => cells_msg h) hf
  exact ⟨l, r, fun x hx => by obtain ⟨k, hk, hq⟩ := q x hx; exact hq (Nat.le_trans hk hb), hl, b⟩
/-- a slice of mails, as an argument -/
theorem open_mails {A : Option Addr} {n c : Nat} {d : DataW H} {p : List MemPlace} (h : DataW.Trod enc Try.prog W 0 (fun _ => true) true 23 (.slice A n c) d p) :
    ∃ xs : List Mail, Rd W 3 A n (xs.flatMap mailC) ∧ (∀ x ∈ xs, I64 x.kind ∧ I64 x.who ∧ I64 x.k) ∧ xs.length = n ∧ n ≤ Rows.uptoBulk d := by
  obtain ⟨fuel, hf⟩ := h
  obtain ⟨l, hl, r, q, b⟩ := rd_of_slice (en := mailC) (size := 3) (Q := fun z _ => I64 z.kind ∧ I64 z.who ∧ I64 z.k) (by omega) (fun _ => rfl) Try.underlying23 cellsMail (fun m cs y h => cells_mail h) hf
  exact ⟨l, r, fun x hx => by obtain ⟨k, hk, hq⟩ := q x hx; exact hq, hl, b⟩
end
end Go.Proofs.Yteajdkneiejlaaa

/- TopEveryMail: where its loop begins, and what stands at its end. -/
namespace Go.Proofs.Yteajdkneiejlaaa
open Go.RowKit Hg

/-- the pair behind met, as far as it is asked -/
theorem last_pair : ((rnd (Qs 3)).e0.mine = 3 ∧ (rnd (Qs 3)).e0.yours = 8 ∧ (rnd (Qs 3)).e0.first = 1 ∧ (rnd (Qs 3)).e0.wait.length = 0 ∧ (rnd (Qs 3)).e0.last = 0 ∧ (rnd (Qs 3)).e0.met = true) ∧
    ((rnd (Qs 3)).e1.mine = 8 ∧ (rnd (Qs 3)).e1.yours = 3 ∧ (rnd (Qs 3)).e1.first = 1 ∧ (rnd (Qs 3)).e1.wait.length = 0 ∧ (rnd (Qs 3)).e1.last = 0 ∧ (rnd (Qs 3)).e1.met = true) ∧
    (rnd (Qs 3)).h0.length = 0 ∧ (rnd (Qs 3)).h1.length = 0 ∧ (rnd (Qs 3)).net.length = 0 := by decide +kernel
theorem last_T : TInv (rnd (Qs 3)) [] [] := by
  obtain ⟨⟨a1, a2, a3, a4, a5, a6⟩, ⟨b1, b2, b3, b4, b5, b6⟩, h0, h1, hn⟩ := last_pair
  have wa := List.eq_nil_of_length_eq_zero a4
  have wb := List.eq_nil_of_length_eq_zero b4
  have n0 := List.eq_nil_of_length_eq_zero hn
  refine ⟨⟨⟨a1, a2, a6, by omega, by omega, by rw [b5]; simp, by rw [wa]; simp, ?_⟩, ⟨b1, b2, b6, by omega, by omega, by rw [a5]; simp, by rw [wb]; simp, ?_⟩, by rw [n0]; simp, by omega⟩, by intro m hm; simp at hm, by intro m hm; simp at hm, by omega, by omega, by simp, by simp⟩
  · rw [List.eq_nil_of_length_eq_zero h1]; simp
  · rw [List.eq_nil_of_length_eq_zero h0]; simp

/-- where the loop begins -/
theorem law_start {W w1 wr : World} {P C0 D : Nat} {xa xb : List HM} (h : PairIn w1 [] W.heap.size P C0 (rnd (Qs 3))) (hc : ChgF [] W.heap.size W w1) (hg : Chg [] w1 wr) (hD : w1.heap.size = D) (hB : Blk wr D 27 #[.slice none 0 0, .slice none 0 0]) (la : xa.length ≤ 1048576) (lb : xb.length ≤ 1048576) :
    LawI W P C0 D xa xb 0 0 (rnd (Qs 3)) (.slice none 0 0) (.slice none 0 0) [] [] wr := by
  have r0 : rowOf (.slice none 0 0) = [] := rfl
  obtain ⟨C1, N, v0, v1, vn, a0, a1, x0, x1, hP⟩ := h
  have hs := hc.size
  have hgs := hg.size
  refine ⟨⟨⟨List.range' W.heap.size (w1.heap.size - W.heap.size), ⟨C1, N, v0, v1, vn, a0, a1, x0, x1, (hP.new_ hg).frame (Nat.le_refl _) (fun a ha q hq => ?_)⟩, fun q hq => ?_⟩, hB, World.ownsRow_nil _ _ _ _, World.ownsRow_nil _ _ _ _, by rw [r0]; simp, by omega⟩, last_T, Nat.zero_le _, Nat.zero_le _, la, lb, Nat.le_refl _, Nat.le_refl _, by simp, by simp, ?_⟩
  · have := hP.lt a ha q hq
    left
    rw [List.mem_range'_1]
    rcases this.1 with h1 | h1
    · simp at h1
    · omega
  · rw [List.mem_range'_1] at hq
    rw [r0]
    exact ⟨by omega, by omega, by omega, by simp, by simp⟩
  · exact hc.trans (ChgF.of (S := []) hg hs (by simp))

/-- what stands where the answer is looked for -/
structure FinAt (w : World) (P D C0 C1 N : Nat) (A0 A1 B0 B1 : Option Addr) (n0 n1 : Nat) (c0 c1 d0 d1 : Nat) (x0 x1 y0 y1 : List HM) : Prop where
  p : Blk w P 41 #[ptrV C0, ptrV C1, ptrV N, .slice A0 n0 c0, .slice A1 n1 c1, .bool false]
  d : Blk w D 27 #[.slice B0 n1 d0, .slice B1 n0 d1]
  h0 : Rd w 6 A0 n0 (x0.flatMap msgC)
  h1 : Rd w 6 A1 n1 (x1.flatMap msgC)
  s0 : Rd w 6 B0 n1 (y0.flatMap msgC)
  s1 : Rd w 6 B1 n0 (y1.flatMap msgC)
  i0 : ∀ x ∈ x0, MsgIn w x.m x.s1 x.s2 x.s3
  i1 : ∀ x ∈ x1, MsgIn w x.m x.s1 x.s2 x.s3
  j0 : ∀ x ∈ y0, MsgIn w x.m x.s1 x.s2 x.s3
  j1 : ∀ x ∈ y1, MsgIn w x.m x.s1 x.s2 x.s3
  e0 : x0.map HM.m = y1.map HM.m
  e1 : x1.map HM.m = y0.map HM.m
  l0 : x0.length = n0
  l1 : x1.length = n1
  r0 : n0 ≤ 1048576
  r1 : n1 ≤ 1048576
  w0 : ∃ V c, w.cell? ⟨C0, 3, none⟩ = some (.slice V 0 c)
  w1 : ∃ V c, w.cell? ⟨C1, 3, none⟩ = some (.slice V 0 c)
  net : ∃ V c, w.cell? ⟨N, 1, none⟩ = some (.slice V 0 c)

theorem FinAt.new_ {w w' : World} {P D C0 C1 N : Nat} {A0 A1 B0 B1 : Option Addr} {n0 n1 c0 c1 d0 d1 : Nat} {x0 x1 y0 y1 : List HM} (h : FinAt w P D C0 C1 N A0 A1 B0 B1 n0 n1 c0 c1 d0 d1 x0 x1 y0 y1) (hg : Chg [] w w') : FinAt w' P D C0 C1 N A0 A1 B0 B1 n0 n1 c0 c1 d0 d1 x0 x1 y0 y1 := by
  have cell : ∀ {C i : Nat} {u : Value}, w.cell? ⟨C, i, none⟩ = some u → w'.cell? ⟨C, i, none⟩ = some u := fun hc => by
    rw [hg.cell (cell_lt hc) (by simp)]; exact hc
  refine ⟨h.p.chg hg (by simp), h.d.chg hg (by simp), h.h0.new_ hg, h.h1.new_ hg, h.s0.new_ hg, h.s1.new_ hg, fun x hx => (h.i0 x hx).new_ hg, fun x hx => (h.i1 x hx).new_ hg, fun x hx => (h.j0 x hx).new_ hg, fun x hx => (h.j1 x hx).new_ hg, h.e0, h.e1, h.l0, h.l1, h.r0, h.r1, ?_, ?_, ?_⟩
  · obtain ⟨V, c, e⟩ := h.w0; exact ⟨V, c, cell e⟩
  · obtain ⟨V, c, e⟩ := h.w1; exact ⟨V, c, cell e⟩
  · obtain ⟨V, c, e⟩ := h.net; exact ⟨V, c, cell e⟩

theorem law_fin {W wr : World} {P C0 D : Nat} {xa xb : List HM} {ni nk : Nat} {p : Pair Msg} {g0 g1 : Value} {y0 y1 : List HM} {n : Int} (ha : ∀ x ∈ xa, MsgIn W x.m x.s1 x.s2 x.s3) (hb : ∀ x ∈ xb, MsgIn W x.m x.s1 x.s2 x.s3)
    (h : LawI W P C0 D xa xb ni nk p g0 g1 y0 y1 wr) (hh : Head p (y0.map HM.m) (y1.map HM.m) n) (hn : p.net = []) :
    ∃ C1 N A0 A1 B0 B1 n0 n1 c0 c1 d0 d1 x0 x1, FinAt wr P D C0 C1 N A0 A1 B0 B1 n0 n1 c0 c1 d0 d1 x0 x1 y0 y1 := by
  obtain ⟨z0, z1, q1, q0⟩ := head_done hh hn
  obtain ⟨F, ⟨C1, N, v0, v1, vn, a0, a1, x0, x1, hP⟩, hF⟩ := h.at_.pair
  have m0 := hP.m0.trans q0
  have m1 := hP.m1.trans q1
  have hx0 : x0.length = y1.length := by have := congrArg List.length m0; simpa using this
  have hx1 : x1.length = y0.length := by have := congrArg List.length m1; simpa using this
  obtain ⟨A0, c0, rfl⟩ := own_slice' hP.h0.own
  obtain ⟨A1, c1, rfl⟩ := own_slice' hP.h1.own
  obtain ⟨B0, d0, rfl⟩ := own_slice' h.at_.s0
  obtain ⟨B1, d1, rfl⟩ := own_slice' h.at_.s1
  obtain ⟨V0, k0, e0, _⟩ := hP.c0.wait.form
  obtain ⟨V1, k1, e1, _⟩ := hP.c1.wait.form
  obtain ⟨VN, kn, en⟩ := own_slice' hP.net.2.1
  rw [z0] at e0
  rw [z1] at e1
  rw [hn] at en
  subst e0 e1 en
  have r0 := h.l0; have r1 := h.l1; have r2 := h.i; have r3 := h.k; have r4 := h.la; have r5 := h.lb
  have hg := h.chg.chg
  refine ⟨C1, N, A0, A1, B0, B1, x0.length, x1.length, c0, c1, d0, d1, x0, x1, hP.blk, ?_, .of_own hP.h0.own, .of_own hP.h1.own, ?_, ?_, hP.h0.ins, hP.h1.ins, fun x hx => (ha x (h.m0 x hx)).new_ hg, fun x hx => (hb x (h.m1 x hx)).new_ hg, m0, m1, rfl, rfl, by omega, by omega, ⟨_, _, hP.c0.blk.cell 3⟩, ⟨_, _, hP.c1.blk.cell 3⟩, ⟨_, _, hP.net.1.cell 1⟩⟩
  · rw [hx0, hx1]; exact h.at_.blk
  · rw [hx1]; exact .of_own h.at_.s0
  · rw [hx0]; exact .of_own h.at_.s1
end Go.Proofs.Yteajdkneiejlaaa
