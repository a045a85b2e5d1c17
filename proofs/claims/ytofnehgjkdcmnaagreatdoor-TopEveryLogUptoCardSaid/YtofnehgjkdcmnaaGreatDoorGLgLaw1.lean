/- What TopEveryLog's loops keep. -/
import Derived.Test.YtofnehgjkdcmnaaGreatDoorGLgLog
import Derived.Test.YtofnehgjkdcmnaaGreatDoorGLgArgs
import Derived.Test.YtofnehgjkdcmnaaGreatDoorGSame
import Derived.Test.YtofnehgjkdcmnaaGreatDoorGDec
namespace Go.Proofs.YtofnehgjkdcmnaaGreatDoor
open Go.RowKit Hg

theorem infoMsg6 : (Tryz.prog.info? 38).map (fun i => (i.zero, i.size, i.bytes)) = some (some (.agg #[i64 0, i64 0, i64 0, .slice none 0 0, .slice none 0 0, .slice none 0 0]), 6, 96) := by kernel_rfl

set_option maxHeartbeats 1000000 in
set_option maxRecDepth 100000 in
theorem longer_any (s : Bytes) (w : World) (hs : 65536 < s.length) :
    Calls Tryz.prog 35 #[strV s] w fun e w' => e = .returned (.bool true) ∧ w = w' := by
  have h : (65536 : Int) < (s.length : Int) := by omega
  go_enter Tryz.func35, Tryz.ntmps35
  go_wp2_with fail
  go_ret
  exact ⟨rfl, rfl⟩
set_option maxHeartbeats 1000000 in
set_option maxRecDepth 100000 in
theorem indexLong_any (B cap : Nat) (s : Bytes) (w : World) (hc : w.cell? ⟨B, 0, none⟩ = some (strV s)) (hs : 65536 < s.length) :
    Calls Tryz.prog 70 #[.slice (some ⟨B, 0, none⟩) 1 cap, .func (.func 35) #[] #[]] w fun e w' => e = .returned (i64 0) ∧ w = w' := by
  have HL := Lib.hid (fun w => longer_any s w hs)
  go_enter Tryz.func70, Tryz.ntmps70
  go_wp2_with fail
  refine wp_loop_rounds 2 ?_
  rw [rounds_succ]
  go_wp2_with fail
  (with_reducible refine (HL.out _).mono ?_)
  rintro e w1 ⟨rfl, rfl⟩
  go_wp2_with fail
  go_ret
  exact ⟨rfl, rfl⟩
set_option maxHeartbeats 1000000 in
set_option maxRecDepth 100000 in
theorem containsLong_any (B cap : Nat) (s : Bytes) (w : World) (hc : w.cell? ⟨B, 0, none⟩ = some (strV s)) (hs : 65536 < s.length) :
    Calls Tryz.prog 34 #[.slice (some ⟨B, 0, none⟩) 1 cap, .func (.func 35) #[] #[]] w fun e w' => e = .returned (.bool true) ∧ w = w' := by
  have HL := Lib.hid (indexLong_any B cap s w hc hs)
  go_enter Tryz.func34, Tryz.ntmps34
  go_wp2_with fail
  (with_reducible refine HL.out.mono ?_)
  rintro e w1 ⟨rfl, rfl⟩
  go_wp2_with fail
  go_ret
  exact ⟨rfl, rfl⟩
set_option maxHeartbeats 1000000 in
set_option maxRecDepth 100000 in
theorem walAppendLong_any (L B cap : Nat) (s : Bytes) (w : World) (hc : w.cell? ⟨B, 0, none⟩ = some (strV s)) (hs : 65536 < s.length) :
    Calls Tryz.prog 8 #[.pointer (some ⟨L, 0, none⟩), .slice (some ⟨B, 0, none⟩) 1 cap] w fun e w' => e = .returned (i64 1) ∧ w = w' := by
  have HL := Lib.hid (containsLong_any B cap s w hc hs)
  go_enter Tryz.func8, Tryz.ntmps8
  go_wp2_with fail
  (with_reducible refine HL.out.mono ?_)
  rintro e w1 ⟨rfl, rfl⟩
  go_wp2_with fail
  go_ret
  exact ⟨rfl, rfl⟩

/-- the message that is logged behind the others -/
def wantMsg : Msg := ⟨11, 7, 0, [], [], []⟩
theorem want_ok : chkMsg wantMsg = true := by decide
theorem want_len : (eMsg wantMsg).length ≤ 65536 := by decide +kernel
theorem want_enc (w : World) : Calls Tryz.prog 7 #[.agg #[.int .i64 11, .int .i64 7, .int .i64 0, .slice none 0 0, .slice none 0 0, .slice none 0 0]] w (Ret (.tuple #[strV (eMsg wantMsg), .int .i64 0]) w) :=
  enc_any wantMsg (none, 0) (none, 0) (none, 0) w ⟨Rd.nil_, Rd.nil_, Rd.nil_, by decide⟩ want_ok
abbrev encY (y : HM) : Byts := eMsg y.m
/-- as the first loop goes: ys are logged -/
structure L1 (T : Nat → Nat) (W w : World) (L d M : Nat) (xs : List HM) (va : Value) (n i : Nat) (ys : List HM) : Prop where
  log : ∃ v D gs g x, LogSt T W.heap.size w L d M v D gs g (ys.map encY) n x
  row : w.ownsRow W.heap.size 38 6 va ys.length (ys.flatMap msgC)
  good : ∀ y ∈ ys, MsgIn W y.m y.s1 y.s2 y.s3 ∧ chkMsg y.m = true
  cnt : ys.length ≤ i
  bel : Below W.heap.size W w
section
variable {T : Nat → Nat} {W w w' : World} {L d M : Nat} {xs : List HM} {va : Value} {n i : Nat} {ys : List HM}
theorem L1.new_ (h : L1 T W w L d M xs va n i ys) (hg : Chg [] w w') : L1 T W w' L d M xs va n i ys := by
  obtain ⟨v, D, gs, g, x, hl⟩ := h.log
  exact ⟨⟨v, D, gs, g, x, hl.new_ hg⟩, own_chg h.row hg (by simp), h.good, h.cnt, h.bel.trans (hg.below.mono h.bel.size)⟩
theorem L1.skip (h : L1 T W w L d M xs va n i ys) : L1 T W w L d M xs va n (i + 1) ys := ⟨h.log, h.row, h.good, Nat.le_succ_of_le h.cnt, h.bel⟩
/-- a record is logged, or not -/
theorem L1.append (h : L1 T W w L d M xs va n i ys) (hi : i ≤ 1048576) (s : Byts) (hs : s.length ≤ 65536) : ∃ c, ∀ B cap, w.cell? ⟨B, 0, none⟩ = some (strV s) →
    Calls Tryz.prog 8 #[.pointer (some ⟨L, 0, none⟩), .slice (some ⟨B, 0, none⟩) 1 cap] w fun e w' => e = .returned (i64 c) ∧
      (∃ v D gs g x, LogSt T W.heap.size w' L d M v D gs g (if c = 0 then ys.map encY ++ [s] else ys.map encY) n x) ∧ KeepR w w' ∧ Below W.heap.size w w' := by
  obtain ⟨v, D, gs, g, x, hl⟩ := h.log
  have hm : (ys.map encY).length < 100000000 := by have := h.cnt; rw [List.length_map]; omega
  obtain ⟨c, hc⟩ := lay_live hl s hs hm
  refine ⟨c, fun B cap hcell => (walAppend_any L B cap s w hcell hs c _ hc).mono fun e w' ⟨h1, v', D', gs', g', x', h2, h3, h4, _⟩ => ⟨h1, ⟨v', D', gs', g', x', h2⟩, h3, h4⟩⟩
theorem L1.sync (h : L1 T W w L d M xs va n i ys) : ∃ c, Calls Tryz.prog 9 #[.pointer (some ⟨L, 0, none⟩)] w fun e w' => e = .returned (i64 c) ∧ L1 T W w' L d M xs va (if c = 0 then ys.length else n) i ys := by
  obtain ⟨v, D, gs, g, x, hl⟩ := h.log
  obtain ⟨c, _, hc⟩ := sync_live hl
  refine ⟨c, hc.mono fun e w' ⟨h1, ⟨D', g', x', h2, _, _⟩, h3, h4⟩ => ⟨h1, ⟨⟨v, D', gs, g', x', ?_⟩, h3 _ _ _ _ _ _ (.inl rfl) h.row, h.good, h.cnt, h.bel.trans h4⟩⟩⟩
  rw [List.length_map] at h2; exact h2
theorem LogSt.row {B B' k : Nat} {v vr : Value} {zs : List Value} {D : LD} {gs : List Seg} {g : Seg} {all : List Byts} {x : TornAt} (h : LogSt T B w L d M v D gs g all n x) (hr : w.ownsRow B' 38 6 vr k zs) (h6 : 6 ≤ B') (hg : Chg (rowOf vr) w w') : LogSt T B w' L d M v D gs g all n x :=
  ⟨⟨h.st.env.chg hg (row_lo hr (by omega)) (row_lo hr (by show 5 < B'; omega)), h.st.log.chg hg (rowOf_ne hr h.st.log.blk (by decide)) (rows_ne h.st.log.row hr (by decide)), h.st.disk.chg hg (rowOf_ne hr h.st.disk.blk (by decide)) (row_ne_map h.st.disk.map hr), h.st.lo⟩, h.live, h.files, h.alive, h.newne, h.low, h.few⟩
/-- a logged message is put behind the others -/
theorem L1.push (h6 : 6 ≤ W.heap.size) {s : Byts} {y : HM} (hlog : ∃ v D gs g x, LogSt T W.heap.size w L d M v D gs g (ys.map encY ++ [s]) n x) (hrow : w.ownsRow W.heap.size 38 6 va ys.length (ys.flatMap msgC)) (hb : Below W.heap.size W w)
    (hgood : ∀ y ∈ ys, MsgIn W y.m y.s1 y.s2 y.s3 ∧ chkMsg y.m = true) (hcnt : ys.length ≤ i) (hy : MsgIn W y.m y.s1 y.s2 y.s3) (hck : chkMsg y.m = true) (hs : s = eMsg y.m) {o : Obj} {v' : Value}
    (hown : w'.ownsRow W.heap.size 38 6 v' (ys.length + 1) (ys.flatMap msgC ++ msgC y)) (hgrow : (w.alloc o).grownBy w' va.ownBlock) : L1 T W w' L d M xs v' n (i + 1) (ys ++ [y]) := by
  obtain ⟨v, D, gs, g, x, hl⟩ := hlog
  have hg1 : Chg (rowOf va) w w' := (((Chg.refl (rowOf va) w).alloc o)).then_ (Chg.of_grown (S := rowOf va) hgrow (fun q e => .inl (by simp [rowOf, e]))) (fun i _ hm => hm)
  refine ⟨⟨v, D, gs, g, x, ?_⟩, ?_, fun z hz => ?_, ?_, hb.trans (hg1.below' (row_low hrow) hb.size)⟩
  · have := hl.row hrow h6 hg1
    rw [List.map_append, List.map_singleton]
    rw [hs] at this; exact this
  · rw [List.flatMap_append, List.length_append]
    simpa using hown
  · rcases List.mem_append.1 hz with hz | hz
    · exact hgood z hz
    · simp only [List.mem_singleton] at hz; subst hz; exact ⟨hy, hck⟩
  · rw [List.length_append]; simp; omega
theorem LogSt.cut {B : Nat} {v : Value} {D : LD} {gs : List Seg} {g : Seg} {all : List Byts} {x : TornAt} (h : LogSt T B w L d M v D gs g all n x) (k : Int) (hk : DiskAt w' d M (cutR D k)) (hg : Chg [d] w w') : LogSt T B w' L d M v (cutR D k) gs g all n x := by
  have hf : (cutR D k).files = D.files := by unfold cutR; split <;> rfl
  have hd : (cutR D k).dead = D.dead := by unfold cutR; split <;> rfl
  exact ⟨h.st.step hk (hg.mono (by intro k _ e; simp at e; simp [e])), h.live, by rw [hf]; exact h.files, by rw [hd]; exact h.alive, h.newne, h.low, by rw [hf]; exact h.few⟩
end
end Go.Proofs.YtofnehgjkdcmnaaGreatDoor
