/- The walk of a log's segments. -/
import Derived.Shelf.Strings.SlTrimAscii
import Derived.Test.YtofnehgjkdcmnaaGreatDoorGLgWal
namespace Go.Proofs.YtofnehgjkdcmnaaGreatDoor
open Go.RowKit Hg

theorem trim_digs (n : Nat) : Lib.trimS (digs 8 n) [48, 49, 50, 51, 52, 53, 54, 55, 56, 57] = [] := by
  have key : ∀ l : List UInt8, (∀ b ∈ l, 48 ≤ b.toNat ∧ b.toNat ≤ 57) → l.dropWhile (([48, 49, 50, 51, 52, 53, 54, 55, 56, 57] : List UInt8).contains ·) = [] := by
    intro l
    induction l with
    | nil => intro _; rfl
    | cons b l ih =>
      intro h
      have hb := h b (by simp)
      have hc : ([48, 49, 50, 51, 52, 53, 54, 55, 56, 57] : List UInt8).contains b = true := by
        have e : b = UInt8.ofNat b.toNat := by simp
        rw [e]
        obtain ⟨k, hk⟩ : ∃ k, b.toNat = k := ⟨_, rfl⟩
        rw [hk] at hb ⊢
        rcases (by omega : k = 48 ∨ k = 49 ∨ k = 50 ∨ k = 51 ∨ k = 52 ∨ k = 53 ∨ k = 54 ∨ k = 55 ∨ k = 56 ∨ k = 57) with h | h | h | h | h | h | h | h | h | h <;> subst h <;> decide
      rw [List.dropWhile_cons, if_pos hc]
      exact ih fun x hx => h x (List.mem_cons_of_mem _ hx)
  unfold Lib.trimS Lib.trimRightS Lib.trimLeftS
  rw [key _ (fun b hb => digs_digit 8 n b (List.mem_reverse.1 hb))]
  rfl
theorem info116 : (Tryz.prog.info? (Tryz.lays160_ren.t 116)).map (fun i => (i.zero, i.size)) = some (some (.agg (Array.replicate 256 (.bool false))), 256) := by kernel_rfl
theorem cut_log (n : Nat) : Lib.trimPrefix (logName n) [108, 111, 103, 46] = digs 8 n ∧ Lib.hasPrefix (logName n) [108, 111, 103, 46] = true := by
  constructor
  · rfl
  · rfl

set_option maxHeartbeats 1000000 in
set_option maxRecDepth 100000 in
theorem segments_any (T : Nat → Nat) (w : World) (L d M : Nat) (v : Value) (firsts : List Nat) (next : Nat) (D : LD) (h : WSt T w L d M v firsts next D) (hl64 : D.files.length ≤ 1000) :
    Calls Tryz.prog 15 #[.pointer (some ⟨L, 0, none⟩)] w fun e w' => ∃ u, e = .returned u ∧ w'.ownsRow w.heap.size 3 1 u D.files.length (D.files.map fun x => i64 (x.1 : Int)) ∧ Chg [] w w' := by
  obtain ⟨i0, hi, hz0, hz1, hz2⟩ := info_parts infoInt
  have F1 := Lib.hid (files_any d M D w h.disk hl64)
  have c0 := h.cell0
  have c1 : w.cell? ⟨L, 1, none⟩ = some (strV [108, 111, 103]) := h.log.blk.cell 1
  have HL := Lib.hid h.log.blk.lt
  have HS := Lib.hid h.disk.asc.small
  clear h
  go_enter Tryz.func15, Tryz.ntmps15
  go_wp2_with fail
  (with_reducible refine F1.out.mono ?_)
  rintro e w1 ⟨u, rfl, hrow, hg1⟩
  obtain ⟨p, cap, rfl, hat⟩ := row_shape hrow
  have HC1 := Lib.hid (show w1.cell? ⟨L, 1, none⟩ = some (strV [108, 111, 103]) by rw [hg1.cell (p := ⟨L, 1, none⟩) HL.out (by simp)]; exact c1)
  have HG1 := Lib.hid hg1
  have HAT : Hid (∀ j (hj : j < D.files.length), ∃ g, p = some ⟨g, 0, none⟩ ∧ g < w1.heap.size ∧ w1.cell? ⟨g, j, none⟩ = some (strV (logName D.files[j].1))) := fun j hj => by
    obtain ⟨g, h1, h2, h3, h4⟩ := hat j hj
    refine ⟨g, h1, h3, ?_⟩
    rw [h4]; simp [namesOf, hj, encStr]
  clear hat hrow hg1 F1 c0 c1
  go_wp2_with fail
  go_loopw [3, 16] (fun v i wr => ∃ k : Nat, k ≤ D.files.length ∧ i = i64 (k : Int) ∧ wr.ownsRow w1.heap.size 3 1 v k ((D.files.take k).map fun x => i64 (x.1 : Int)) ∧ Below w1.heap.size w1 wr) (fun _ i _ => D.files.length - (intOf i).toNat)
  case atStart => exact ⟨0, Nat.zero_le _, rfl, ⟨by simp, .inl ⟨rfl, rfl⟩⟩, Below.refl _ _⟩
  case round =>
    obtain ⟨k, hk1, rfl, hrow, hC⟩ := hrel
    by_cases hlt : k < D.files.length
    · obtain ⟨g, rfl, hg1, hg3⟩ := HAT.out k hlt
      have hLt : (k : Int) < (D.files.length : Int) := by omega
      have hgc : wr.cell? ⟨g, k, none⟩ = some (strV (logName D.files[k].1)) := by
        rw [hC.cell (p := ⟨g, k, none⟩) hg1]; exact hg3
      have hL1 : L < w1.heap.size := Nat.lt_of_lt_of_le HL.out HG1.out.size
      have c1 : wr.cell? ⟨L, 1, none⟩ = some (strV [108, 111, 103]) := by
        rw [hC.cell (p := ⟨L, 1, none⟩) hL1]; exact HC1.out
      have HTK : Hid (D.files.take (k + 1) = D.files.take k ++ [D.files[k]]) := List.take_succ_eq_append_getElem hlt
      have hn := HS.out _ (List.getElem_mem hlt)
      clear HAT
      have HC := Lib.hid hC
      have HROW := Lib.hid hrow
      clear hC hrow hg1 hg3 hL1
      generalize D.files[k] = x at hgc hn HTK
      obtain ⟨n, f⟩ := x
      dsimp only at hgc hn
      have hcat : ∀ w, (Op.stringOp .add (ByteArray.mk #[108, 111, 103]) (ByteArray.mk #[46])).run Tryz.prog w = .ok (strV [108, 111, 103, 46]) w := cat_any [108, 111, 103] [46] (by unfold maxLen; decide)
      have HCUT : Hid (∀ w, Calls Tryz.prog 50 #[strV (logName n), strV [108, 111, 103, 46]] w fun e w' => e = .returned (.tuple #[strV (digs 8 n), .bool true]) ∧ w = w') := fun w => by
        refine (Tryz.strings_CutPrefix ⟨(logName n).toArray⟩ ⟨#[108, 111, 103, 46]⟩ w).mono fun e w' hq => ⟨?_, hq.2.symm⟩
        rw [hq.1, show (ByteArray.mk (logName n).toArray).data.toList = logName n by simp, show (ByteArray.mk #[108, 111, 103, 46]).data.toList = [108, 111, 103, 46] from rfl, (cut_log n).1, (cut_log n).2]
      have HTR : Hid (∀ w, Calls Tryz.prog 51 #[strV (digs 8 n), .string ⟨#[48, 49, 50, 51, 52, 53, 54, 55, 56, 57]⟩] w fun e w' => e = .returned (strV []) ∧ Below w.heap.size w w') := fun w => by
        refine (Any.strings_Trim_laid Tryz.lays160 info116 ⟨(digs 8 n).toArray⟩ ⟨#[48, 49, 50, 51, 52, 53, 54, 55, 56, 57]⟩ w (by show (digs 8 n).toArray.size ≤ _; simp [digs_length]) (by decide) (ascii_of_all (by decide))).mono fun e w' hq => ⟨?_, hq.2⟩
        rw [hq.1, show (ByteArray.mk (digs 8 n).toArray).data.toList = digs 8 n by simp, show (ByteArray.mk #[48, 49, 50, 51, 52, 53, 54, 55, 56, 57]).data.toList = [48, 49, 50, 51, 52, 53, 54, 55, 56, 57] from rfl, trim_digs]
      have HAI : Hid (∀ w, Calls Tryz.prog 52 #[strV (digs 8 n)] w fun e w' => e = .returned (.tuple #[i64 (n : Int), .nilIface]) ∧ Below w.heap.size w w') := fun w => by
        refine (Tryz.strconv_Atoi ⟨(digs 8 n).toArray⟩ (n : Int) (by show (digs 8 n).toArray.size ≤ _; simp [digs_length]) (by rw [show (ByteArray.mk (digs 8 n).toArray).data.toList = digs 8 n by simp]; exact logName_atoi n hn) w).mono fun e w' hq => ⟨hq.1, ?_⟩
        obtain ⟨t, rfl⟩ := hq.2
        exact ⟨rfl, rfl, rfl, by rw [Lib.bytesWorld_size]; omega, fun i hi => Lib.bytesWorld_at_old w _ t i hi⟩
      have h8 : (digs 8 n).length = 8 := digs_length 8 n
      clear hn
      generalize digs 8 n = s at HCUT HTR HAI h8
      go_wp2_with fail
      (with_reducible refine (HCUT.out _).mono ?_)
      rintro e w2 ⟨rfl, rfl⟩
      go_wp2_with fail
      (with_reducible refine (HTR.out _).mono ?_)
      rintro e w3 ⟨rfl, hb3⟩
      have HB3 := Lib.hid hb3
      clear hb3 hgc c1 hcat
      go_wp2_with fail
      (with_reducible refine (HAI.out _).mono ?_)
      rintro e w4 ⟨rfl, hb4⟩
      have hC4 : Chg [] wr w4 := (Chg.of_below HB3.out).trans (Chg.of_below hb4)
      have hrow4 := own_chg HROW.out hC4 (by simp)
      have hb14 : Below w1.heap.size w1 w4 := HC.out.trans (hC4.below.mono HC.out.size)
      have HB := Lib.hid hb14
      have hsz := hb14.size
      have hsz0 : w.heap.size ≤ w4.heap.size := Nat.le_trans HG1.out.size hsz
      clear hb4 hb14 HB3 HROW
      have hk64 : k + 1 ≤ 1000 := by omega
      go_wp2_with (at_builtin; refine wpList_append_own _ rfl _ _ 50 rfl w1.heap.size 3 i0 (.int .i64 0) 1 8 Tryz.underlying50 hi hz0 hz1 hz2 rfl (by decide) _ _ _ rfl (hrow4.alloc _) ⟨w4.heap.size, 0, none⟩ 1 1 [i64 (n : Int)] rfl rfl (cell_one_new _ _ _) (by simp [Value.oneCell']) (by unfold maxLen; omega) (by omega) (by simp; omega) ?_; intro v' w5 hown' hg5 hnil5; go_frame)
      have hb5 : Below w1.heap.size w1 w5 := (HB.out.alloc hsz _).grown hg5 (by simp; omega) (fun j hj => (hrow4.lt j hj).1)
      have HH := Lib.hid (And.intro hown' hb5)
      clear hown' hb5 hg5 hnil5
      go_wp2_with fail
      go_roundw
      case rel => exact ⟨k + 1, by omega, by rfl, by rw [HTK.out, List.map_append]; exact HH.out.1, HH.out.2⟩
      case measure => simp [intOf]; omega
    · have hLt : ¬ ((k : Int) < (D.files.length : Int)) := by omega
      obtain rfl : k = D.files.length := by omega
      rw [List.take_length] at hrow
      have HROW := Lib.hid hrow
      have HC := Lib.hid hC
      clear hrow hC HAT
      go_wp2_with fail
      go_returns
      exact ⟨_, rfl, own_base HROW.out (fun k hk => Nat.le_trans HG1.out.size (HROW.out.lt k hk).1), HG1.out.trans (Chg.of_below HC.out)⟩
end Go.Proofs.YtofnehgjkdcmnaaGreatDoor

/- What Open does with the files that it finds, as plain data. -/
namespace Go.Proofs.YtofnehgjkdcmnaaGreatDoor
open Go.RowKit Hg

/-- a segment that is found, and what is torn behind it -/
abbrev Piece := Seg × Byts
section
variable (tl : Byts → Byts)
def Piece.found (y : Piece) : Nat × LFile := sureFile y.1.first (y.1.bytes tl ++ y.2)
def Piece.clean (y : Piece) : Nat × LFile := sureFile y.1.first (y.1.bytes tl)
/-- the files when the first k of them are cut -/
def cleaned (k : Nat) (l : List Piece) : List (Nat × LFile) := (l.take k).map (Piece.clean tl) ++ (l.drop k).map (Piece.found tl)
/-- the records of the first k pieces -/
def recs (k : Nat) (l : List Piece) : List Byts := texts ((l.take k).map (·.1))
/-- pieces as they may be found -/
structure Fine (l : List Piece) : Prop where
  chain : Chain 0 (l.map (·.1)) (recs l.length l).length
  whole : ∀ k (h : k < l.length), k + 1 < l.length → l[k].2 = []
  torn : ∀ y ∈ l, Torn tl y.2
  small : ∀ y ∈ l, ∀ t ∈ y.1.ts, t.length ≤ 65536
variable {tl}
theorem cleaned_fst (k : Nat) (l : List Piece) : (cleaned tl k l).map (·.1) = l.map (·.1.first) := by
  unfold cleaned
  rw [List.map_append, List.map_map, List.map_map]
  show (l.take k).map (fun y => y.1.first) ++ (l.drop k).map (fun y => y.1.first) = _
  rw [← List.map_append, List.take_append_drop]
theorem cleaned_len (k : Nat) (l : List Piece) : (cleaned tl k l).length = l.length := by
  have := congrArg List.length (cleaned_fst (tl := tl) k l); simpa using this
theorem cleaned_mid {k : Nat} {l : List Piece} (hk : k < l.length) : cleaned tl k l = (l.take k).map (Piece.clean tl) ++ (l[k].1.first, ⟨l[k].1.bytes tl ++ l[k].2, (l[k].1.bytes tl ++ l[k].2).length⟩) :: (l.drop (k + 1)).map (Piece.found tl) := by
  unfold cleaned; rw [List.drop_eq_getElem_cons hk]; rfl
theorem cleaned_get {k : Nat} {l : List Piece} (hk : k < l.length) (h : Asc (cleaned tl k l)) : lget (cleaned tl k l) l[k].1.first = some ⟨l[k].1.bytes tl ++ l[k].2, (l[k].1.bytes tl ++ l[k].2).length⟩ := by
  rw [cleaned_mid hk] at h ⊢
  exact get_mid h
theorem cleaned_succ {k : Nat} {l : List Piece} (hk : k < l.length) (h : Asc (cleaned tl k l)) : lset (cleaned tl k l) l[k].1.first ⟨l[k].1.bytes tl, (l[k].1.bytes tl).length⟩ = cleaned tl (k + 1) l := by
  rw [cleaned_mid hk] at h ⊢
  rw [set_mid h]
  unfold cleaned
  rw [List.take_succ_eq_append_getElem hk, List.map_append, List.append_assoc]; rfl
theorem recs_succ {k : Nat} {l : List Piece} (hk : k < l.length) : recs (k + 1) l = recs k l ++ l[k].1.ts := by
  unfold recs
  rw [List.take_succ_eq_append_getElem hk, List.map_append, texts_append]
  simp [texts]
theorem recs_zero (l : List Piece) : recs 0 l = [] := rfl
theorem chain_at : ∀ (l : List Seg) (a b : Nat), Chain a l b → ∀ k (h : k < l.length), l[k].first = a + (texts (l.take k)).length
  | [], _, _, _, k, h => by simp at h
  | g :: l, a, b, hc, 0, _ => by simp [texts, hc.1]
  | g :: l, a, b, hc, k + 1, h => by
    have := chain_at l _ b hc.2 k (by simpa using h)
    simp only [List.getElem_cons_succ, this, List.take_succ_cons, texts, List.flatMap_cons, List.length_append]
    omega
theorem Fine.first {l : List Piece} (h : Fine tl l) {k : Nat} (hk : k < l.length) : l[k].1.first = (recs k l).length := by
  have := chain_at _ _ _ h.chain k (by simpa using hk)
  rw [Nat.zero_add, List.getElem_map] at this
  rw [this]
  unfold recs
  rw [List.map_take]
theorem Fine.parse (ht : ∀ s, (tl s).length = 4) {l : List Piece} (h : Fine tl l) {k : Nat} (hk : k < l.length) : parseN tl ((l[k].1.bytes tl ++ l[k].2).length + 1) (l[k].1.bytes tl ++ l[k].2) = (l[k].1.ts, (l[k].1.bytes tl).length) := by
  refine parseN_frs ht l[k].1.ts (h.small _ (List.getElem_mem hk)) (h.torn _ (List.getElem_mem hk)) _ ?_
  have := frs_ge ht l[k].1.ts
  unfold Seg.bytes
  rw [List.length_append]; omega
/-- what Fnd tells, as pieces -/
def piecesOf (gs : List Seg) (g : Seg) (p : Byts) : List Piece := gs.map (fun x => (x, [])) ++ [(g, p)]
theorem pieces_fst (gs : List Seg) (g : Seg) (p : Byts) : (piecesOf gs g p).map (·.1) = gs ++ [g] := by
  simp [piecesOf, Function.comp_def]
theorem pieces_len (gs : List Seg) (g : Seg) (p : Byts) : (piecesOf gs g p).length = gs.length + 1 := by simp [piecesOf]
theorem pieces_recs (gs : List Seg) (g : Seg) (p : Byts) : recs (piecesOf gs g p).length (piecesOf gs g p) = texts (gs ++ [g]) := by
  unfold recs; rw [List.take_length, pieces_fst]
theorem pieces_found (gs : List Seg) (g : Seg) (p : Byts) (next : Nat) : cleaned tl 0 (piecesOf gs g p) = foundFiles tl gs g next (.last p) := by
  simp [cleaned, piecesOf, foundFiles, Piece.found, Function.comp_def]
theorem pieces_done (gs : List Seg) (g : Seg) (p : Byts) (next : Nat) : cleaned tl (piecesOf gs g p).length (piecesOf gs g p) = filesOf tl (gs.map fun x => { x with sure := (x.bytes tl).length }) { g with sure := (g.bytes tl).length } next .none := by
  unfold cleaned
  rw [List.take_length, List.drop_length]
  simp [piecesOf, filesOf, Piece.clean, Seg.file, sureFile, Function.comp_def, Seg.bytes]
theorem pieces_fine {gs : List Seg} {g : Seg} {p : Byts} {next : Nat} {ts : List Byts} (h : Fnd tl gs g next ts (.last p)) : Fine tl (piecesOf gs g p) := by
  refine ⟨?_, fun k hk hk1 => ?_, fun y hy => ?_, fun y hy => ?_⟩
  · rw [pieces_recs, pieces_fst]
    have := h.chain.end_
    rw [Nat.zero_add] at this
    rw [← this]; exact h.chain
  · rw [pieces_len] at hk1
    have hk2 : k < (gs.map (fun x => ((x, []) : Piece))).length := by simp; omega
    have e : (piecesOf gs g p)[k] = (gs.map (fun x => ((x, []) : Piece)))[k] := List.getElem_append_left hk2
    rw [e]; simp
  · unfold piecesOf at hy
    rcases List.mem_append.1 hy with hy | hy
    · obtain ⟨z, hz, rfl⟩ := List.mem_map.1 hy
      exact .inl rfl
    · simp only [List.mem_singleton] at hy; subst hy; exact h.torn
  · unfold piecesOf at hy
    rcases List.mem_append.1 hy with hy | hy
    · obtain ⟨z, hz, rfl⟩ := List.mem_map.1 hy
      exact h.small z (List.mem_append_left _ hz)
    · simp only [List.mem_singleton] at hy; subst hy; exact h.small g (by simp)
theorem lset_same {l : List (Nat × LFile)} {n : Nat} {f : LFile} (h : Asc l) (hg : lget l n = some f) : lset l n f = l := by
  unfold lset
  conv => rhs; rw [← List.map_id l]
  refine List.map_congr_left fun x hx => ?_
  by_cases e : x.1 = n
  · rw [if_pos e]
    have hm := get_mem hg
    have hp := h.lt
    rcases Classical.em (x = (n, f)) with h1 | h1
    · rw [h1]; rfl
    · exfalso
      have := List.pairwise_iff_getElem.1 hp
      obtain ⟨i, hi, rfl⟩ := List.mem_iff_getElem.1 hx
      obtain ⟨j, hj, ej⟩ := List.mem_iff_getElem.1 hm
      have e2 : l[j].1 = n := by rw [ej]
      rcases Nat.lt_trichotomy i j with h2 | h2 | h2
      · have := this i j hi hj h2; omega
      · subst h2; exact h1 ej
      · have := this j i hj hi h2; omega
  · rw [if_neg e]; rfl
theorem done_get {l' : List Piece} {y : Piece} (h : Asc (cleaned tl (l' ++ [y]).length (l' ++ [y]))) : lget (cleaned tl (l' ++ [y]).length (l' ++ [y])) y.1.first = some ⟨y.1.bytes tl, (y.1.bytes tl).length⟩ := by
  have e : cleaned tl (l' ++ [y]).length (l' ++ [y]) = l'.map (Piece.clean tl) ++ (y.1.first, ⟨y.1.bytes tl, (y.1.bytes tl).length⟩) :: [] := by
    unfold cleaned
    rw [List.take_length, List.drop_length, List.map_append, List.map_nil, List.append_nil]
    rfl
  rw [e] at h ⊢
  exact get_mid h
end
end Go.Proofs.YtofnehgjkdcmnaaGreatDoor

/- What Open's loop does with the log's segments and with the records, in memory. -/
namespace Go.Proofs.YtofnehgjkdcmnaaGreatDoor
open Go.RowKit Hg

theorem append_nothing {P : Program} (w : World) (base : Nat) (t ty e : TypeId) (i : TypeInfo) (size : Nat) (ht : P.underlying t = some (.slice e)) (hi : P.info? e = some i)
    (v : Value) (n : Nat) (xs : List Value) (hown : w.ownsRow base e size v n xs) : (Builtin.append_ #[t, t] ty #[v, .slice none 0 0]).run P w = .ok v w := by
  rcases hown.2 with ⟨rfl, rfl⟩ | ⟨g, cap, cur, rfl, _, _, hnc, _⟩
  · simp [Builtin.append_, run_underlying ht, sizeOf, typeInfo, hi, Builtin.lenOf, Builtin.firstCells]
  · simp [Builtin.append_, run_underlying ht, sizeOf, typeInfo, hi, Builtin.lenOf, Builtin.firstCells, hnc, storeCells]
/-- an append of a row that may be nil -/
theorem step_append_src {P : Program} {w : World} {ops : Array Oper} {o : Oper} {a : Act} {K : Act → World → Prop} {Q : Exit → Act → World → Prop} {E : Prop} (hgd : o.guard = none) (s x : Operand) (t : TypeId)
    (ho : o.op = .call { callee := .builtin .append, args := #[s, x], argTypes := #[t, t] })
    (base : Nat) (e : TypeId) (i : TypeInfo) (z : Value) (size bytes : Nat) (ht : P.underlying t = some (.slice e)) (hi : P.info? e = some i) (hz : i.zero = some z)
    (hsize : i.size = size) (hby : i.bytes = bytes) (hzs : z.cells.size = size) (hsz : 0 < size)
    (v : Value) (n : Nat) (xs : List Value) (hs : a.eval s = v) (hown : w.ownsRow base e size v n xs)
    (r : Value) (base' m : Nat) (news : List Value) (hx : a.eval x = r) (hr : w.ownsRow base' e size r m news) (h1 : ∀ u ∈ news, u.oneCell' = true)
    (h63 : n + m ≤ maxLen) (hbytes : (n + m) * bytes ≤ 140737488355328) (hbase : base ≤ w.heap.size)
    (h : ∀ v' w', w'.ownsRow base e size v' (n + m) (xs ++ news) → w.grownBy w' v.ownBlock → (v'.ownBlock = v.ownBlock ∨ v'.ownBlock = some w.heap.size) → K (a.put o.dst v') w') :
    if Region.wanted o (yielded ops a.tmps) = true then Oper.wp P o a w K Q else E := by
  have hw : Region.wanted o (yielded ops a.tmps) = true := by simp [Region.wanted, hgd]
  rw [if_pos hw]
  have key : ∃ v' w', (Builtin.append_ #[t, t] o.type #[v, r]).run P w = .ok v' w' ∧ w'.ownsRow base e size v' (n + m) (xs ++ news) ∧ w.grownBy w' v.ownBlock ∧ (v'.ownBlock = v.ownBlock ∨ v'.ownBlock = some w.heap.size) := by
    have hr' := hr
    rcases hr.2 with ⟨rfl, rfl⟩ | ⟨g, cap, cur, rfl, _⟩
    · have hn : news = [] := List.eq_nil_of_length_eq_zero (by simpa using hr.1)
      subst hn
      exact ⟨v, w, append_nothing w base t o.type e i size ht hi v n xs hown, by simpa using hown, World.grownBy.refl w _, .inl rfl⟩
    · obtain ⟨v', w', hrun, h2, h3, _, h5⟩ := run_append_own_at (P := P) w base t o.type e i z size bytes ht hi hz hsize hby hzs hsz v n xs hown ⟨g, 0, none⟩ m cap news hr.1 (hr'.cells rfl) h1 h63 hbytes hbase
      exact ⟨v', w', hrun, h2, h3, h5⟩
  obtain ⟨v', w', hrun, h2, h3, h5⟩ := key
  unfold Oper.wp execOp
  simp only [ho, resolve, invoke, builtin, Sem.run_bind, Sem.run_pure, Result.andThen_ok, List.map_toArray, List.map_cons, List.map_nil, hs, hx, hrun]
  exact h v' w' h2 h3 h5

theorem WSt.put3 {T : Nat → Nat} {w : World} {L d M : Nat} {v : Value} {firsts : List Nat} {next : Nat} {D : LD} (h : WSt T w L d M v firsts next D) (n : Nat) {u : Value} (hu : i64 (n : Int) = u) :
    WSt T (w.setCell ⟨L, 3, none⟩ u) L d M v firsts n D ∧ Chg [L] w (w.setCell ⟨L, 3, none⟩ u) := by
  have hn := h.ne_
  have hg : Chg [L] w (w.setCell ⟨L, 3, none⟩ u) := (Chg.refl [L] w).setCell (.inl (by simp)) u
  have hl := h.lo
  refine ⟨⟨h.env.chg hg (by simp; omega) (by simp; omega), ⟨?_, own_chg h.log.row hg (fun k hk => ?_)⟩, h.disk.chg hg (by simpa using Ne.symm hn.1) (by simpa using Ne.symm hn.2.1), hl⟩, hg⟩
  · have := h.log.blk.set_ 3 u
    rw [hu]; exact this
  · simp only [List.mem_singleton]
    rintro rfl
    exact hn.2.2.1 (by simp [rowOf, hk])

/-- the log at L with its segments' row v, of which a longer one v2 is to be the new one; the records told so far in u -/
structure Mid (T : Nat → Nat) (w0 w : World) (L d M : Nat) (v : Value) (next : Nat) (D : LD) (v2 : Value) (fs : List Nat) (u : Value) (ts : List Byts) : Prop where
  blk : Blk w L 52 #[.pointer (some ⟨d, 0, none⟩), strV [108, 111, 103], v, i64 (next : Int)]
  env : Env T w
  disk : DiskAt w d M D
  row : w.ownsRow 6 3 1 v2 fs.length (fs.map fun n : Nat => i64 (n : Int))
  low : ∀ q ∈ rowOf v2, w0.heap.size ≤ q
  out : w.ownsRow w0.heap.size 9 1 u ts.length (ts.map encStr)
  chg : Chg [d, M, L] w0 w
  lo : 6 ≤ L ∧ 6 ≤ d ∧ 6 ≤ M
  lt : 6 ≤ w0.heap.size

theorem row_low {w : World} {base : Nat} {e : TypeId} {size n : Nat} {v : Value} {xs : List Value} (h : w.ownsRow base e size v n xs) : ∀ q ∈ rowOf v, base ≤ q := fun q hq => by
  unfold rowOf at hq
  cases hr : v.ownBlock with
  | none => rw [hr] at hq; simp at hq
  | some k' => rw [hr] at hq; simp at hq; subst hq; exact (h.lt _ hr).1
theorem rows_ne {w : World} {base base' : Nat} {e e' : TypeId} {size size' n n' : Nat} {v v' : Value} {xs xs' : List Value} (h : w.ownsRow base e size v n xs) (h' : w.ownsRow base' e' size' v' n' xs') (hne : e ≠ e') : ∀ q ∈ rowOf v, q ∉ rowOf v' := fun q hq => by
  rcases h.2 with ⟨rfl, _⟩ | ⟨k, cap, cur, rfl, _, hk, _⟩
  · simp [rowOf, Value.ownBlock] at hq
  · simp only [rowOf, Value.ownBlock, List.mem_singleton] at hq
    subst hq
    exact rowOf_ne h' hk hne
theorem own_chg' {w w' : World} {S : List Nat} {base : Nat} {e : TypeId} {size n : Nat} {v : Value} {xs : List Value} (h : w.ownsRow base e size v n xs) (hb : Chg S w w') (hS : ∀ q ∈ rowOf v, q ∉ S) : w'.ownsRow base e size v n xs :=
  own_chg h hb (fun k hk => hS k (by simp [rowOf, hk]))

/-- the segments' row is longer by one -/
theorem Mid.first {T : Nat → Nat} {w0 w w8 : World} {L d M : Nat} {v v2 u : Value} {fs : List Nat} {n next : Nat} {D : LD} {ts : List Byts} (h : WSt T w L d M v fs next D) (hlow : ∀ q ∈ rowOf v, w0.heap.size ≤ q) (hout : w.ownsRow w0.heap.size 9 1 u ts.length (ts.map encStr)) (hc : Chg [d, M, L] w0 w) (h6 : 6 ≤ w0.heap.size) (o : Obj)
    (hown : w8.ownsRow 6 3 1 v2 (fs.length + 1) ((fs.map fun n : Nat => i64 (n : Int)) ++ [i64 (n : Int)])) (hgrow : (w.alloc o).drew.grownBy w8 v.ownBlock) (hat : v2.ownBlock = v.ownBlock ∨ v2.ownBlock = some (w.alloc o).drew.heap.size) :
    Mid T w0 w8 L d M v next D v2 (fs ++ [n]) u ts ∧ Chg (rowOf v) w w8 := by
  have hne := h.ne_
  have hg1 : Chg (rowOf v) w w8 := (((Chg.refl (rowOf v) w).alloc o).drew).then_ (Chg.of_grown (S := rowOf v) hgrow (fun q e => .inl (by simp [rowOf, e]))) (fun i _ hm => hm)
  refine ⟨⟨h.log.blk.chg hg1 hne.2.2.1, h.env.chg hg1 (row_lo h.log.row (by decide)) (row_lo h.log.row (by decide)), h.disk.chg hg1 hne.2.2.2.1 hne.2.2.2.2, by simpa using hown, fun q hq => ?_, own_chg' hout hg1 (rows_ne hout h.log.row (by decide)), hc.then_ hg1 (fun i hi hm => absurd (hlow i hm) (by omega)), h.lo, h6⟩, hg1⟩
  unfold rowOf at hq
  rcases hat with e | e
  · rw [e] at hq; exact hlow q hq
  · rw [e] at hq
    simp only [List.mem_singleton] at hq
    rw [hq]
    have := hc.size
    simp only [World.drew, World.alloc] at *
    simp
    omega
/-- the records are more -/
theorem Mid.more {T : Nat → Nat} {w0 w8 w9 : World} {L d M : Nat} {v v2 u u2 : Value} {fs : List Nat} {next : Nat} {D : LD} {ts ts2 : List Byts} (h : Mid T w0 w8 L d M v next D v2 fs u ts)
    (hown : w9.ownsRow w0.heap.size 9 1 u2 (ts.length + ts2.length) ((ts.map encStr) ++ (ts2.map encStr))) (hgrow : w8.grownBy w9 u.ownBlock) :
    Mid T w0 w9 L d M v next D v2 fs u2 (ts ++ ts2) ∧ Chg [d, M, L] w0 w9 := by
  have hg1 : Chg (rowOf u) w8 w9 := Chg.of_grown (S := rowOf u) hgrow (fun q e => .inl (by simp [rowOf, e]))
  have hlow := row_low h.out
  have hc : Chg [d, M, L] w0 w9 := h.chg.then_ hg1 (fun i hi hm => absurd (hlow i hm) (by omega))
  have h6 := h.lt
  refine ⟨⟨h.blk.chg hg1 (rowOf_ne h.out h.blk (by decide)), h.env.chg hg1 (fun hm => absurd (hlow _ hm) (by omega)) (fun hm => absurd (hlow _ hm) (by omega)), h.disk.chg hg1 (rowOf_ne h.out h.disk.blk (by decide)) (row_ne_map h.disk.map h.out), own_chg' h.row hg1 (rows_ne h.row h.out (by decide)), h.low, by simpa using hown, hc, h.lo, h.lt⟩, hc⟩
/-- the log takes the longer row and the next number -/
theorem Mid.put {T : Nat → Nat} {w0 w : World} {L d M : Nat} {v v2 u : Value} {fs : List Nat} {next n2 : Nat} {D : LD} {ts : List Byts} (h : Mid T w0 w L d M v next D v2 fs u ts) {x : Value} (hx : i64 (n2 : Int) = x) :
    WSt T ((w.setCell ⟨L, 2, none⟩ v2).setCell ⟨L, 3, none⟩ x) L d M v2 fs n2 D ∧ ((w.setCell ⟨L, 2, none⟩ v2).setCell ⟨L, 3, none⟩ x).ownsRow w0.heap.size 9 1 u ts.length (ts.map encStr) ∧
    Chg [d, M, L] w0 ((w.setCell ⟨L, 2, none⟩ v2).setCell ⟨L, 3, none⟩ x) := by
  have hg : Chg [L] w (w.setCell ⟨L, 2, none⟩ v2) := (Chg.refl [L] w).setCell (.inl (by simp)) _
  have hLd : L ≠ d := h.blk.ne_ h.disk.blk (by decide)
  have hLM : L ≠ M := map_ne_cells h.disk.map h.blk
  have hl := h.lo
  have hst : WSt T (w.setCell ⟨L, 2, none⟩ v2) L d M v2 fs next D :=
    ⟨h.env.chg hg (by simp; omega) (by simp; omega), ⟨h.blk.set_ 2 v2, own_chg' h.row hg (fun q hq => by simp only [List.mem_singleton]; rintro rfl; exact rowOf_ne h.row h.blk (by decide) hq)⟩, h.disk.chg hg (by simpa using Ne.symm hLd) (by simpa using Ne.symm hLM), hl⟩
  have hp := hst.put3 n2 hx
  have hg2 := hg.trans hp.2
  exact ⟨hp.1, own_chg' h.out hg2 (fun q hq => by simp only [List.mem_singleton]; rintro rfl; exact rowOf_ne h.out h.blk (by decide) hq), h.chg.trans (hg2.mono (by intro k _ hk; simp at hk; simp [hk]))⟩
end Go.Proofs.YtofnehgjkdcmnaaGreatDoor
