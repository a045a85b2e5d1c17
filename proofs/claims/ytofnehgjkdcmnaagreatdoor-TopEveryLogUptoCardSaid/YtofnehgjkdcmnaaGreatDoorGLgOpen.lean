/- The walk of a log's Open. -/
import Derived.Deep.DeepCutAuto
import Derived.Deep.CutBlock
import Derived.Deep.LoopGhost
import Derived.Test.YtofnehgjkdcmnaaGreatDoorGLgBack
namespace Go.Proofs.YtofnehgjkdcmnaaGreatDoor
open Go.RowKit Hg

/-- as the loop of Open begins: the log without segments at L, the numbers fs of the segments that are there -/
structure OpSt (T : Nat → Nat) (w0 w : World) (L d M : Nat) (D : LD) (b2 b7 g cap : Nat) (fs : List Nat) : Prop where
  st : WSt T w L d M (.slice none 0 0) [] 0 D
  box2 : Blk w b2 24 #[.pointer (some ⟨d, 0, none⟩)]
  box7 : Blk w b7 26 #[.pointer (some ⟨L, 0, none⟩)]
  there : w.ownsRow 0 3 1 (.slice (some ⟨g, 0, none⟩) fs.length cap) fs.length (fs.map fun n : Nat => i64 (n : Int))
  chg : Chg [d, M] w0 w
  new_ : w0.heap.size ≤ L

theorem open_st {T : Nat → Nat} {w w1 : World} {d M b2 : Nat} {D : LD} (hE : Env T w) (hD : DiskAt w d M D) (hlo : 6 ≤ d ∧ 6 ≤ M) (hg : Chg [] w w1) (hb : Blk w1 b2 24 #[.pointer (some ⟨d, 0, none⟩)]) :
    WSt T ((w1.alloc (.cells #[.pointer (some ⟨d, 0, none⟩), strV [108, 111, 103], .slice none 0 0, .int .i64 0] 52)).alloc (.cells #[.pointer (some ⟨w1.heap.size, 0, none⟩)] 26)) w1.heap.size d M (.slice none 0 0) [] 0 D ∧
    Blk ((w1.alloc (.cells #[.pointer (some ⟨d, 0, none⟩), strV [108, 111, 103], .slice none 0 0, .int .i64 0] 52)).alloc (.cells #[.pointer (some ⟨w1.heap.size, 0, none⟩)] 26)) b2 24 #[.pointer (some ⟨d, 0, none⟩)] ∧
    Blk ((w1.alloc (.cells #[.pointer (some ⟨d, 0, none⟩), strV [108, 111, 103], .slice none 0 0, .int .i64 0] 52)).alloc (.cells #[.pointer (some ⟨w1.heap.size, 0, none⟩)] 26)) (w1.heap.size + 1) 26 #[.pointer (some ⟨w1.heap.size, 0, none⟩)] ∧
    Chg [] w ((w1.alloc (.cells #[.pointer (some ⟨d, 0, none⟩), strV [108, 111, 103], .slice none 0 0, .int .i64 0] 52)).alloc (.cells #[.pointer (some ⟨w1.heap.size, 0, none⟩)] 26)) := by
  have hL := Blk.new w1 52 #[.pointer (some ⟨d, 0, none⟩), strV [108, 111, 103], .slice none 0 0, .int .i64 0]
  have hc := ((hg.alloc (.cells #[.pointer (some ⟨d, 0, none⟩), strV [108, 111, 103], .slice none 0 0, .int .i64 0] 52)).alloc (.cells #[.pointer (some ⟨w1.heap.size, 0, none⟩)] 26))
  have h9 : 6 ≤ w1.heap.size := by have := hD.blk.lt; have := hg.size; omega
  refine ⟨⟨hE.new_ hc, ⟨hL.alloc _, ⟨by simp, .inl ⟨rfl, rfl⟩⟩⟩, hD.new_ hc, h9, hlo.1, hlo.2⟩, (hb.alloc _).alloc _, ?_, hc⟩
  have := Blk.new (w1.alloc (.cells #[.pointer (some ⟨d, 0, none⟩), strV [108, 111, 103], .slice none 0 0, .int .i64 0] 52)) 26 #[.pointer (some ⟨w1.heap.size, 0, none⟩)]
  simpa using this

/-- an empty disk gets a first file -/
def opened (D : LD) : LD := if D.files = [] then made D 0 [] else D

/-- as the loop of Open goes: k segments are read -/
structure LoopSt (T : Nat → Nat) (w0 w : World) (L d M : Nat) (room : Nat) (l : List Piece) (k : Nat) (v u : Value) : Prop where
  st : WSt T w L d M v ((l.take k).map (·.1.first)) (recs k l).length ⟨cleaned (tlT T) k l, room, false⟩
  low : ∀ q ∈ rowOf v, w0.heap.size ≤ q
  out : w.ownsRow w0.heap.size 9 1 u (recs k l).length ((recs k l).map encStr)
  chg : Chg [d, M, L] w0 w
theorem LoopSt.new_ {T : Nat → Nat} {w0 w w' : World} {L d M room : Nat} {l : List Piece} {k : Nat} {v u : Value} (h : LoopSt T w0 w L d M room l k v u) (hg : Chg [] w w') : LoopSt T w0 w' L d M room l k v u :=
  ⟨h.st.new_ hg, h.low, own_chg h.out hg (by simp), h.chg.trans (hg.mono (by simp))⟩
/-- what stood as the loop began -/
structure Base (w0 : World) (L d M b2 b7 g : Nat) (l : List Piece) : Prop where
  box2 : Blk w0 b2 24 #[.pointer (some ⟨d, 0, none⟩)]
  box7 : Blk w0 b7 26 #[.pointer (some ⟨L, 0, none⟩)]
  ne2 : b2 ∉ [d, M, L]
  ne7 : b7 ∉ [d, M, L]
  neg : g ∉ [d, M, L]
  glt : g < w0.heap.size
  six : 6 ≤ w0.heap.size
  there : ∀ k (h : k < l.length), w0.cell? ⟨g, k, none⟩ = some (i64 (l[k].1.first : Int))
theorem Base.cells {w0 w : World} {L d M b2 b7 g : Nat} {l : List Piece} (h : Base w0 L d M b2 b7 g l) (hg : Chg [d, M, L] w0 w) :
    w.cell? ⟨b2, 0, none⟩ = some (.pointer (some ⟨d, 0, none⟩)) ∧ w.cell? ⟨b7, 0, none⟩ = some (.pointer (some ⟨L, 0, none⟩)) ∧ ∀ k (h : k < l.length), w.cell? ⟨g, k, none⟩ = some (i64 (l[k].1.first : Int)) :=
  ⟨(h.box2.chg hg h.ne2).cell 0, (h.box7.chg hg h.ne7).cell 0, fun k hk => by rw [hg.cell (p := ⟨g, k, none⟩) h.glt h.neg]; exact h.there k hk⟩
section
variable {T : Nat → Nat} {w0 w : World} {L d M room : Nat} {l : List Piece} {k : Nat} {v u : Value}
theorem LoopSt.cells (h : LoopSt T w0 w L d M room l k v u) {b2 b7 g : Nat} (hb : Base w0 L d M b2 b7 g l) :
    w.cell? ⟨b2, 0, none⟩ = some (.pointer (some ⟨d, 0, none⟩)) ∧ w.cell? ⟨b7, 0, none⟩ = some (.pointer (some ⟨L, 0, none⟩)) := ⟨(hb.cells h.chg).1, (hb.cells h.chg).2.1⟩
theorem LoopSt.small (h : LoopSt T w0 w L d M room l k v u) (hk : k < l.length) : l[k].1.first < 100000000 := by
  have h1 := h.st.disk.asc.small
  have h2 : l[k].1.first ∈ (cleaned (tlT T) k l).map (·.1) := by rw [cleaned_fst]; exact List.mem_map.2 ⟨_, List.getElem_mem hk, rfl⟩
  obtain ⟨y, hy, e⟩ := List.mem_map.1 h2
  rw [← e]; exact h1 y hy
theorem LoopSt.file_ (h : LoopSt T w0 w L d M room l k v u) (n : Nat) (hn : n < 100000000) :
    Calls Tryz.prog 17 #[.pointer (some ⟨L, 0, none⟩), i64 (n : Int)] w fun e w' => e = .returned (strV (logName n)) ∧ LoopSt T w0 w' L d M room l k v u :=
  (h.st.file_ n hn).mono fun _ _ ⟨h1, _, h3⟩ => ⟨h1, h.new_ h3⟩
theorem LoopSt.get_ (h : LoopSt T w0 w L d M room l k v u) (hk : k < l.length) : lget (cleaned (tlT T) k l) l[k].1.first = some ⟨l[k].1.bytes (tlT T) ++ l[k].2, (l[k].1.bytes (tlT T) ++ l[k].2).length⟩ := cleaned_get hk h.st.disk.asc
theorem LoopSt.read_ (h : LoopSt T w0 w L d M room l k v u) (hk : k < l.length) :
    Calls Tryz.prog 18 #[.pointer (some ⟨d, 0, none⟩), strV (logName l[k].1.first)] w fun e w' => e = .returned (.tuple #[strV (l[k].1.bytes (tlT T) ++ l[k].2), i64 0]) ∧ LoopSt T w0 w' L d M room l k v u := by
  have hr := read_any d M l[k].1.first _ w h.st.disk (h.small hk)
  unfold fileOr findE at hr
  dsimp only at hr
  rw [h.get_ hk] at hr
  exact hr.mono fun _ _ ⟨h1, h2⟩ => ⟨h1, h.new_ h2⟩
theorem LoopSt.len_ (h : LoopSt T w0 w L d M room l k v u) (hk : k < l.length) : (l[k].1.bytes (tlT T) ++ l[k].2).length ≤ 4194304 :=
  (h.st.disk.size _ (get_mem (h.get_ hk))).1
theorem tlT_len (T : Nat → Nat) (s : Byts) : (tlT T s).length = 4 := rfl
theorem LoopSt.all_ (h : LoopSt T w0 w L d M room l k v u) (hf : Fine (tlT T) l) (hk : k < l.length) :
    Calls Tryz.prog 19 #[strV (l[k].1.bytes (tlT T) ++ l[k].2)] w fun e w' => ∃ r, e = .returned (.tuple #[r, i64 ((l[k].1.bytes (tlT T)).length : Int)]) ∧ w'.ownsRow w0.heap.size 9 1 r l[k].1.ts.length (l[k].1.ts.map encStr) ∧ (∀ q ∈ rowOf r, w.heap.size ≤ q) ∧ LoopSt T w0 w' L d M room l k v u := by
  refine (all_any _ w T h.st.env.lt h.st.env.nib h.st.env.pos (h.len_ hk)).mono fun e w' hq => ?_
  unfold AllP at hq
  rw [hf.parse (tlT_len T) hk] at hq
  obtain ⟨r, h1, h2, h3⟩ := hq
  refine ⟨r, h1, own_base h2 (fun q hq => Nat.le_trans h.chg.size (h2.lt q hq).1), fun q hq => ?_, h.new_ h3⟩
  unfold rowOf at hq
  cases hr : r.ownBlock with
  | none => rw [hr] at hq; simp at hq
  | some k' => rw [hr] at hq; simp at hq; subst hq; exact (h2.lt _ hr).1
theorem trunc_at (h : DiskAt w d M ⟨cleaned (tlT T) k l, room, false⟩) (hk : k < l.length) (hl : l.length ≤ 1000) (n : Nat) (hn : l[k].1.first = n) :
    Calls Tryz.prog 20 #[.pointer (some ⟨d, 0, none⟩), strV (logName n), i64 ((l[k].1.bytes (tlT T)).length : Int)] w fun e w' => e = .returned (i64 0) ∧ DiskAt w' d M ⟨cleaned (tlT T) (k + 1) l, room, false⟩ ∧ Chg [d, M] w w' := by
  subst hn
  have hg := cleaned_get hk h.asc
  have hr := trunc_ok d M l[k].1.first (l[k].1.bytes (tlT T)).length _ _ w h (h.asc.small _ (get_mem hg)) rfl hg (by dsimp only; rw [cleaned_len]; exact hl) (by rw [List.length_append]; omega)
  refine hr.mono fun _ _ ⟨h1, h2, h3⟩ => ⟨h1, ?_, h3⟩
  have e : stored ⟨cleaned (tlT T) k l, room, false⟩ l[k].1.first ⟨(l[k].1.bytes (tlT T) ++ l[k].2).take (l[k].1.bytes (tlT T)).length, min (l[k].1.bytes (tlT T) ++ l[k].2).length (l[k].1.bytes (tlT T)).length⟩ = ⟨cleaned (tlT T) (k + 1) l, room, false⟩ := by
    unfold stored
    dsimp only
    rw [List.take_left, Nat.min_eq_right (by rw [List.length_append]; omega), cleaned_succ hk h.asc]
  rw [← e]; exact h2
/-- the state between the records and the cutting -/
structure CutSt (T : Nat → Nat) (w0 w : World) (L d M room : Nat) (l : List Piece) (k : Nat) (v u : Value) : Prop where
  st : WSt T w L d M v ((l.take (k + 1)).map (·.1.first)) (recs (k + 1) l).length ⟨cleaned (tlT T) k l, room, false⟩
  low : ∀ q ∈ rowOf v, w0.heap.size ≤ q
  out : w.ownsRow w0.heap.size 9 1 u (recs (k + 1) l).length ((recs (k + 1) l).map encStr)
  chg : Chg [d, M, L] w0 w
theorem CutSt.new_ {w' : World} (h : CutSt T w0 w L d M room l k v u) (hg : Chg [] w w') : CutSt T w0 w' L d M room l k v u :=
  ⟨h.st.new_ hg, h.low, own_chg h.out hg (by simp), h.chg.trans (hg.mono (by simp))⟩
theorem CutSt.cells (h : CutSt T w0 w L d M room l k v u) {b2 b7 g : Nat} (hb : Base w0 L d M b2 b7 g l) :
    w.cell? ⟨b2, 0, none⟩ = some (.pointer (some ⟨d, 0, none⟩)) ∧ w.cell? ⟨b7, 0, none⟩ = some (.pointer (some ⟨L, 0, none⟩)) := ⟨(hb.cells h.chg).1, (hb.cells h.chg).2.1⟩
theorem CutSt.file_ (h : CutSt T w0 w L d M room l k v u) (n : Nat) (hn : n < 100000000) :
    Calls Tryz.prog 17 #[.pointer (some ⟨L, 0, none⟩), i64 (n : Int)] w fun e w' => e = .returned (strV (logName n)) ∧ CutSt T w0 w' L d M room l k v u :=
  (h.st.file_ n hn).mono fun _ _ ⟨h1, _, h3⟩ => ⟨h1, h.new_ h3⟩
theorem CutSt.done {w' : World} (h : CutSt T w0 w L d M room l k v u) (hD : DiskAt w' d M ⟨cleaned (tlT T) (k + 1) l, room, false⟩) (hg : Chg [d, M] w w') : LoopSt T w0 w' L d M room l (k + 1) v u := by
  refine ⟨h.st.step hD hg, h.low, own_chg' h.out hg (fun q hq => ?_), h.chg.trans (hg.mono (by intro q _ hq; simp at hq; rcases hq with e | e <;> simp [e]))⟩
  simp only [List.mem_cons, List.not_mem_nil, or_false]
  rintro (rfl | rfl)
  · exact rowOf_ne h.out h.st.disk.blk (by decide) hq
  · exact row_ne_map h.st.disk.map h.out hq
end
theorem row_cap {w : World} {base : Nat} {e : TypeId} {size n c : Nat} {A : Option Addr} {xs : List Value} (h : w.ownsRow base e size (.slice A n c) n xs) : n ≤ c := by
  rcases h.2 with ⟨h1, h2⟩ | ⟨g, cap, cur, h1, _, _, h2, _⟩
  · omega
  · injection h1 with _ _ e; omega
/-- behind Open's loops -/
structure EndSt (T : Nat → Nat) (w0 w : World) (L d M D n : Nat) (fs : List Nat) (next : Nat) (Df : LD) (v u : Value) (ts : List Byts) : Prop where
  st : WSt T w L d M v (fs ++ [n]) next Df
  out : w.ownsRow w0.heap.size 9 1 u ts.length (ts.map encStr)
  chg : Chg [d, M, L] w0 w
  df : w.heap[D]? = some (.deferred (some []))
section
variable {T : Nat → Nat} {w0 w w' : World} {L d M D n next : Nat} {fs : List Nat} {Df : LD} {v u : Value} {ts : List Byts}
theorem lt_of_df (h : w.heap[D]? = some (.deferred (some []))) : D < w.heap.size := (Array.getElem?_eq_some_iff.1 h).1
theorem EndSt.new_ (h : EndSt T w0 w L d M D n fs next Df v u ts) (hg : Chg [] w w') : EndSt T w0 w' L d M D n fs next Df v u ts :=
  ⟨h.st.new_ hg, own_chg h.out hg (by simp), h.chg.trans (hg.mono (by simp)), (hg.block D (lt_of_df h.df) (by simp)).trans h.df⟩
theorem EndSt.ne_ (h : EndSt T w0 w L d M D n fs next Df v u ts) : D ≠ d ∧ D ≠ M ∧ D ≠ L ∧ D ∉ rowOf v ∧ D ∉ rowOf u := by
  have hd := h.df
  refine ⟨fun e => ?_, fun e => ?_, fun e => ?_, fun e => ?_, fun e => ?_⟩
  · have := h.st.disk.blk; unfold Blk at this; rw [← e, hd] at this; cases this
  · obtain ⟨es, clock, hb, _⟩ := h.st.disk.map; rw [← e, hd] at hb; cases hb
  · have := h.st.log.blk; unfold Blk at this; rw [← e, hd] at this; cases this
  · rcases h.st.log.row.2 with ⟨rfl, _⟩ | ⟨k, cap, cur, rfl, _, hk, _⟩
    · simp [rowOf, Value.ownBlock] at e
    · simp only [rowOf, Value.ownBlock, List.mem_singleton] at e; subst e; rw [hd] at hk; cases hk
  · rcases h.out.2 with ⟨rfl, _⟩ | ⟨k, cap, cur, rfl, _, hk, _⟩
    · simp [rowOf, Value.ownBlock] at e
    · simp only [rowOf, Value.ownBlock, List.mem_singleton] at e; subst e; rw [hd] at hk; cases hk
theorem EndSt.sync_ (h : EndSt T w0 w L d M D n fs next Df v u ts) (hD : DiskAt w' d M Df) (hg : Chg [d, M] w w') : EndSt T w0 w' L d M D n fs next Df v u ts := by
  have hn := h.ne_
  refine ⟨h.st.step hD hg, own_chg' h.out hg (fun q hq => ?_), h.chg.trans (hg.mono (by intro q _ hq; simp at hq; rcases hq with e | e <;> simp [e])), (hg.block D (lt_of_df h.df) (by simp; exact ⟨hn.1, hn.2.1⟩)).trans h.df⟩
  simp only [List.mem_cons, List.not_mem_nil, or_false]
  rintro (rfl | rfl)
  · exact rowOf_ne h.out h.st.disk.blk (by decide) hq
  · exact row_ne_map h.st.disk.map h.out hq
theorem chg_putObj (w : World) (D : Nat) (o : Obj) : Chg [D] w (w.putObj D o) :=
  ⟨rfl, rfl, rfl, by simp, fun k _ hk => World.putObj_heap_other (fun e => hk (by simp [e]))⟩
theorem EndSt.put_ (h : EndSt T w0 w L d M D n fs next Df v u ts) (h6 : 6 ≤ D) (o : Obj) : WSt T (w.putObj D o) L d M v (fs ++ [n]) next Df ∧ (w.putObj D o).ownsRow w0.heap.size 9 1 u ts.length (ts.map encStr) := by
  have hn := h.ne_
  have hg := chg_putObj w D o
  refine ⟨⟨h.st.env.chg hg (by simp; omega) (by simp; omega), h.st.log.chg hg (by simpa using Ne.symm hn.2.2.1) (fun k hk => ?_), h.st.disk.chg hg (by simpa using Ne.symm hn.1) (by simpa using Ne.symm hn.2.1), h.st.lo⟩, own_chg' h.out hg (fun q hq => ?_)⟩
  · simp only [List.mem_singleton]; rintro rfl; exact hn.2.2.2.1 hk
  · simp only [List.mem_singleton]; rintro rfl; exact hn.2.2.2.2 hq
end
/-- what Open answers -/
def OpenP (T : Nat → Nat) (w : World) (d M : Nat) (room : Nat) (l : List Piece) (e : Ending) (w' : World) : Prop :=
  ∃ L v u, e = .returned (.tuple #[.pointer (some ⟨L, 0, none⟩), u, i64 0]) ∧ WSt T w' L d M v (l.map (·.1.first)) (recs l.length l).length ⟨cleaned (tlT T) l.length l, room, false⟩ ∧
    w'.ownsRow w.heap.size 9 1 u (recs l.length l).length ((recs l.length l).map encStr) ∧ Chg [d, M] w w' ∧ w.heap.size ≤ L ∧ ∀ q ∈ rowOf v, w.heap.size ≤ q

set_option maxHeartbeats 1000000 in
set_option maxRecDepth 100000 in
theorem walOpen_any (T : Nat → Nat) (w : World) (d M : Nat) (D : LD) (l : List Piece) (hne : l ≠ []) (hl : l.length ≤ 1000) (hfl : (opened D).files = cleaned (tlT T) 0 l) (hfine : Fine (tlT T) l) (hE : Env T w) (hD : DiskAt w d M D) (hlo : 6 ≤ d ∧ 6 ≤ M) (hl64 : D.files.length ≤ 1000) (hdead : D.dead = false) :
    Calls Tryz.prog 5 #[.pointer (some ⟨d, 0, none⟩), strV [108, 111, 103]] w (OpenP T w d M (opened D).room l) := by
  have HFL := Lib.hid hfl
  have HFN := Lib.hid hfine
  have HNE := Lib.hid hne
  clear hfl hfine hne
  have HE := Lib.hid hE
  have HD := Lib.hid hD
  have HDD := Lib.hid hdead
  have HLO := Lib.hid hlo
  have HR := Lib.hid (fun w => right_log w)
  clear hE hD hdead hlo
  refine calls_of_marks Tryz.func5 rfl ?_
  simp only [Tryz.ntmps5, List.size_toArray, List.length_cons, List.length_nil, Nat.reduceAdd, Nat.reduceSub, Array.replicate_succ, Array.replicate_zero, List.push_toArray, List.append_toArray, List.nil_append, List.cons_append]
  go_wp2_with fail
  (with_reducible refine (HR.out _).mono ?_)
  rintro e w1 ⟨rfl, hg1⟩
  have hb1 := (Blk.new w 24 #[.pointer (some ⟨d, 0, none⟩)]).chg hg1 (by simp)
  have hc1 : Chg [] w w1 := ((Chg.refl [] w).alloc _).trans hg1
  have c1 := hb1.cell 0
  simp only [List.getElem?_toArray, List.getElem?_cons_zero] at c1
  have HST := Lib.hid (open_st HE.out HD.out HLO.out hc1 hb1)
  have HN := Lib.hid hc1.size
  have HN2 := Lib.hid hc1.size
  clear hg1 hb1 hc1
  generalize w.heap.size = b2 at HST c1 HN ⊢
  go_upto_region 4 with fail
  generalize ((w1.alloc (.cells #[.pointer (some ⟨d, 0, none⟩), strV [108, 111, 103], .slice none 0 0, .int .i64 0] 52)).alloc (.cells #[.pointer (some ⟨w1.heap.size, 0, none⟩)] 26)) = w2 at HST ⊢
  generalize w1.heap.size + 1 = b7 at HST ⊢
  generalize w1.heap.size = L at HST HN HN2 ⊢
  clear c1
  have c2 := HST.out.2.1.cell 0
  have c7 := HST.out.2.2.1.cell 0
  simp only [List.getElem?_toArray, List.getElem?_cons_zero] at c2 c7
  have F1 := Lib.hid (segments_any T w2 L d M _ _ _ D HST.out.1 hl64)
  go_wp2_with fail
  (with_reducible refine F1.out.mono ?_)
  rintro e w3 ⟨u, rfl, hrow, hg3⟩
  have HST3 : Hid (WSt T w3 L d M (.slice none 0 0) [] 0 D ∧ Blk w3 b2 24 #[.pointer (some ⟨d, 0, none⟩)] ∧ Blk w3 b7 26 #[.pointer (some ⟨L, 0, none⟩)] ∧ Chg [] w w3) := ⟨HST.out.1.new_ hg3, HST.out.2.1.chg hg3 (by simp), HST.out.2.2.1.chg hg3 (by simp), HST.out.2.2.2.trans hg3⟩
  have c2 := HST3.out.2.1.cell 0
  have c7 := HST3.out.2.2.1.cell 0
  simp only [List.getElem?_toArray, List.getElem?_cons_zero] at c2 c7
  obtain ⟨p, cap, rfl⟩ := row_form hrow
  have HROW := Lib.hid hrow
  clear hrow hg3 F1 HST
  go_upto_if 35 with fail
  go_cut [8, 9] from 32 to 43 (fun s8 _ wx => ∃ g cap, s8 = .slice (some ⟨g, 0, none⟩) (opened D).files.length cap ∧ Hid (OpSt T w wx L d M (opened D) b2 b7 g cap ((opened D).files.map (·.1))))
  case first =>
    by_cases hf : D.files = []
    · have hd1 : opened D = made D 0 [] := if_pos hf
      have hl : ((D.files.length : Int) == 0) = true := by rw [hf]; rfl
      have hl2 : D.files.length = 0 := by rw [hf]; rfl
      have HF := Lib.hid hf
      have H3 : Hid (WSt T w3.drew L d M (.slice none 0 0) [] 0 D) := HST3.out.1.new_ (Chg.refl [] w3).drew
      have HFI : Hid (∀ W, WSt T W L d M (.slice none 0 0) [] 0 D → Calls Tryz.prog 17 #[.pointer (some ⟨L, 0, none⟩), i64 0] W fun e w' => e = .returned (strV (logName 0)) ∧ WSt T w' L d M (.slice none 0 0) [] 0 D ∧ Chg [] W w') := fun W h => h.file_ 0 (by decide)
      have HA : Hid (DCall 16 #[.pointer (some ⟨d, 0, none⟩), strV (logName 0), strV []] d M D 0 (made D 0 [])) := fun W hW =>
        append_new d M 0 D [] W hW (by decide) HDD.out (by rw [hf]; simp) (by rw [hf]; decide) (by decide) (Nat.zero_le _)
      have HD1 := Lib.hid hd1
      have ne1 : ¬ b2 = b7 := fun e => absurd (HST3.out.2.1.ne_ HST3.out.2.2.1 (by decide)) (by simpa using e)
      clear hf hd1
      go_wp2_with fail
      go_region_held3 (fun W => W.cell? ⟨b2, 0, none⟩ = some (.pointer (some ⟨d, 0, none⟩)) ∧ W.cell? ⟨b7, 0, none⟩ = some (.pointer (some ⟨L, 0, none⟩))) (go_keep)
        (first
          | (go_at_call 17; (with_reducible refine (HFI.out _ H3.out).mono ?_); rintro e w4 ⟨rfl, hw4, hg4⟩; have HW4 : Hid (WSt T w4 L d M (.slice none 0 0) [] 0 D ∧ Blk w4 b2 24 #[.pointer (some ⟨d, 0, none⟩)] ∧ Blk w4 b7 26 #[.pointer (some ⟨L, 0, none⟩)] ∧ Chg [] w w4) := ⟨hw4, HST3.out.2.1.chg (((Chg.refl [] w3).drew).trans hg4) (by simp), HST3.out.2.2.1.chg (((Chg.refl [] w3).drew).trans hg4) (by simp), HST3.out.2.2.2.drew.trans hg4⟩; have d2 := HW4.out.2.1.cell 0; have d7 := HW4.out.2.2.1.cell 0; simp only [List.getElem?_toArray, List.getElem?_cons_zero] at d2 d7; clear hw4 hg4)
          | (go_at_call 16; (with_reducible refine (HA.out _ HW4.out.1.disk).mono ?_); rintro e w5 ⟨rfl, hd5, hg5⟩; have HW5 : Hid (WSt T w5 L d M (.slice none 0 0) [] 0 (made D 0 []) ∧ Blk w5 b2 24 #[.pointer (some ⟨d, 0, none⟩)] ∧ Blk w5 b7 26 #[.pointer (some ⟨L, 0, none⟩)] ∧ Chg [d, M] w w5) := ⟨HW4.out.1.step hd5 hg5, HW4.out.2.1.chg hg5 (by simp; exact ⟨HW4.out.2.1.ne_ HW4.out.1.disk.blk (by decide), map_ne_cells HW4.out.1.disk.map HW4.out.2.1⟩), HW4.out.2.2.1.chg hg5 (by simp; exact ⟨HW4.out.2.2.1.ne_ HW4.out.1.disk.blk (by decide), map_ne_cells HW4.out.1.disk.map HW4.out.2.2.1⟩), (HW4.out.2.2.2.mono (by simp)).trans hg5⟩; have f2 := HW5.out.2.1.cell 0; have f7 := HW5.out.2.2.1.cell 0; simp only [List.getElem?_toArray, List.getElem?_cons_zero] at f2 f7; clear hd5 hg5))
      clear c2 c7 d2 d7 HW4 H3 HFI HA
      go_wp2_with fail
      go_meet
      rw [HD1.out]
      have hB := Blk.new w5 3 #[i64 0]
      have hg := (Chg.refl [] w5).alloc (.cells #[i64 0] 3)
      have hfs : (made D 0 []).files.map (·.1) = [0] := by simp [made, HF.out]
      refine ⟨w5.heap.size, 1, by simp [made, HF.out], ⟨HW5.out.1.new_ hg, HW5.out.2.1.chg hg (by simp), HW5.out.2.2.1.chg hg (by simp), ?_, HW5.out.2.2.2.trans (hg.mono (by simp)), HN2.out⟩⟩
      rw [hfs]
      exact ⟨rfl, .inr ⟨_, 1, #[i64 0], rfl, Nat.zero_le _, hB, Nat.le_refl _, by decide, rfl, rfl⟩⟩
    · have hl : ((D.files.length : Int) == 0) = false := by
        have : D.files.length ≠ 0 := fun h => hf (List.eq_nil_of_length_eq_zero h)
        simpa using this
      have hpos : 0 < D.files.length := List.length_pos_iff.2 hf
      obtain ⟨g, cap2, hv, _, _⟩ := HROW.out.form hpos
      have HV := Lib.hid hv
      have hd1 : opened D = D := if_neg hf
      have HD1 := Lib.hid hd1
      clear hv hpos hd1
      go_wp2_with fail
      go_meet
      rw [HD1.out]
      have e := HV.out
      injection e with e1 e2 e3
      subst e1
      refine ⟨g, cap, rfl, ⟨HST3.out.1, HST3.out.2.1, HST3.out.2.2.1, ?_, HST3.out.2.2.2.mono (by simp), HN2.out⟩⟩
      have := own_base (base' := 0) HROW.out (fun _ _ => Nat.zero_le _)
      simpa [Function.comp_def] using this
  case rest =>
    obtain ⟨g, cap, rfl, HS⟩ := hcut
    have hN : (opened D).files.length = l.length := by rw [HFL.out, cleaned_len]
    rw [hN]
    have hfs : (opened D).files.map (·.1) = l.map (·.1.first) := by rw [HFL.out, cleaned_fst]
    have HDR : Hid ((opened D) = ⟨cleaned (tlT T) 0 l, (opened D).room, false⟩) := by
      have h1 : (opened D).dead = false := by unfold opened; split; rfl; exact HDD.out
      have h2 := HFL.out
      show opened D = _
      cases hO : opened D with
      | mk a b c => rw [hO] at h1 h2; dsimp only at h1 h2; rw [h1, h2]
    obtain ⟨room, hrm⟩ : ∃ room, room = (opened D).room := ⟨_, rfl⟩
    rw [← hrm] at HDR
    have HRM := Lib.hid hrm
    clear hrm
    have HS2 : Hid (OpSt T w wc L d M ⟨cleaned (tlT T) 0 l, room, false⟩ b2 b7 g cap (l.map (·.1.first))) := by
      have := HS.out
      rw [hfs, HDR.out] at this
      exact this
    clear HS HDR HST3 HFL hN hfs HROW HDD HN c2 c7
    have hpos : 0 < l.length := List.length_pos_iff.2 HNE.out
    have hpi : (0 : Int) < (l.length : Int) := by omega
    have c7 := HS2.out.box7.cell 0
    simp only [List.getElem?_toArray, List.getElem?_cons_zero] at c7
    have hth := HS2.out.there
    rw [List.length_map] at hth
    have HCL := Lib.hid (row_cap hth)
    have c8 : wc.cell? ⟨g, 0, none⟩ = some (i64 0) := by
      have := hth.cellAt 0 (by omega)
      rw [this]
      have h0 := HFN.out.first hpos
      rw [recs_zero] at h0
      simp [List.getElem?_eq_getElem hpos, h0]
    have f3 := HS2.out.st.log.blk.frozen 3
    have c33 := HS2.out.st.cell3
    have HTH := Lib.hid hth
    clear hth
    go_wp2_with fail
    refine wp_region_still_tail 6 (by kernel_rfl) (by kernel_rfl) ?_
    simp only [List.take_succ_cons, List.take_zero, List.drop_succ_cons, List.drop_zero]
    repeat (with_reducible refine wpStill_step ?_; intro K hK; go_simp; with_reducible refine hK _ ?_; clear hK K)
    with_reducible refine wpStill_nil ?_
    change wpList _ _ _ _ _ wc.drew
    go_wp2_with fail
    change Code.wp _ _ _ _ (wc.setCell ⟨L, 3, none⟩ (i64 0)).drew
    have hput := HS2.out.st.put3 0 (u := i64 0) (by rfl)
    have hB : Base (wc.setCell ⟨L, 3, none⟩ (i64 0)).drew L d M b2 b7 g l := by
      have hx := hput.2.drew
      have n2 : b2 ∉ [d, M, L] := by
        simp only [List.mem_cons, List.not_mem_nil, or_false, not_or]
        exact ⟨HS2.out.box2.ne_ HS2.out.st.disk.blk (by decide), map_ne_cells HS2.out.st.disk.map HS2.out.box2, HS2.out.box2.ne_ HS2.out.st.log.blk (by decide)⟩
      have n7 : b7 ∉ [d, M, L] := by
        simp only [List.mem_cons, List.not_mem_nil, or_false, not_or]
        exact ⟨HS2.out.box7.ne_ HS2.out.st.disk.blk (by decide), map_ne_cells HS2.out.st.disk.map HS2.out.box7, HS2.out.box7.ne_ HS2.out.st.log.blk (by decide)⟩
      have ng : g ∉ [d, M, L] := by
        have r1 := rowOf_ne HTH.out HS2.out.st.disk.blk (by decide)
        have r2 := row_ne_map HS2.out.st.disk.map HTH.out
        have r3 := rowOf_ne HTH.out HS2.out.st.log.blk (by decide)
        simp only [rowOf, Value.ownBlock, List.mem_singleton] at r1 r2 r3
        simp only [List.mem_cons, List.not_mem_nil, or_false, not_or]
        exact ⟨fun e => r1 e.symm, fun e => r2 e.symm, fun e => r3 e.symm⟩
      have hgl : g < wc.heap.size := (HTH.out.lt g rfl).2
      refine ⟨HS2.out.box2.chg hx (by simp at n2 ⊢; exact n2.2.2), HS2.out.box7.chg hx (by simp at n7 ⊢; exact n7.2.2), n2, n7, ng, Nat.lt_of_lt_of_le hgl hx.size, by have h1 := HS2.out.st.lo.1; have h2 := HS2.out.st.log.blk.lt; have h3 := hx.size; omega, fun k hk => ?_⟩
      rw [hx.cell (p := ⟨g, k, none⟩) hgl (by simp at ng ⊢; exact ng.2.2)]
      rw [HTH.out.cellAt k (by omega)]
      simp [hk]
    have HCW : Hid (Chg [d, M] w (wc.setCell ⟨L, 3, none⟩ (i64 0)).drew) := (HS2.out.chg.setCell (.inr HS2.out.new_) _).drew
    have hL0 : LoopSt T (wc.setCell ⟨L, 3, none⟩ (i64 0)).drew (wc.setCell ⟨L, 3, none⟩ (i64 0)).drew L d M room l 0 (.slice none 0 0) (.slice none 0 0) :=
      ⟨hput.1.new_ (Chg.refl [] _).drew, by simp [rowOf, Value.ownBlock], ⟨by simp [recs, texts], .inl ⟨rfl, by simp [recs, texts]⟩⟩, Chg.refl _ _⟩
    have HB := Lib.hid hB
    have HL0 := Lib.hid hL0
    have HNEW := Lib.hid HS2.out.new_
    clear hput hB hL0 HS2 HTH c7 c8 c33 f3
    generalize (wc.setCell ⟨L, 3, none⟩ (i64 0)).drew = w0 at HB HL0 HCW ⊢
    go_loopg [10, 11, 52] l.length (fun gk so sw si wr => ∃ (k : Nat) (v : Value) (b : Bool), gk + k = l.length ∧ si = i64 (k : Int) ∧ sw = .bool b ∧ (k < l.length → b = true) ∧ Hid (LoopSt T w0 wr L d M room l k v so))
    case atStart => exact ⟨0, _, true, rfl, rfl, rfl, fun _ => rfl, HL0.out⟩
    case round =>
      obtain ⟨k, v, b, hgk, rfl, rfl, hb, HLS⟩ := hrel
      by_cases hlt : k < l.length
      · obtain rfl := hb hlt
        clear hb
        have hLt : (k : Int) < (l.length : Int) := by omega
        have hcs := HB.out.cells HLS.out.chg
        have c2 := hcs.1
        have c7 := hcs.2.1
        have cg := hcs.2.2 k hlt
        have cn := HLS.out.st.cell3
        rw [HFN.out.first hlt] at cg
        clear hcs
        have HK := Lib.hid hlt
        have HGK := Lib.hid hgk
        clear hlt hgk
        generalize hn : (recs k l).length = n at cg cn ⊢
        have HN := Lib.hid hn
        clear hn
        have F4 : Hid (LoopSt T w0 wr.drew L d M room l k v u10) := HLS.out.new_ (Chg.refl [] wr).drew
        have HNF : Hid ((l[k]'HK.out).1.first = n) := (HFN.out.first HK.out).trans HN.out
        have hn8 := HLS.out.small HK.out
        rw [HNF.out] at hn8
        have HFI := Lib.hid (fun W (h : LoopSt T w0 W L d M room l k v u10) => h.file_ n hn8)
        have HRD := Lib.hid (fun W (h : LoopSt T w0 W L d M room l k v u10) => h.read_ HK.out)
        have HAL := Lib.hid (fun W (h : LoopSt T w0 W L d M room l k v u10) => h.all_ HFN.out HK.out)
        rw [HNF.out] at HRD
        generalize hs : (l[k]'HK.out).1.bytes (tlT T) ++ (l[k]'HK.out).2 = s at HRD HAL
        generalize hat : ((l[k]'HK.out).1.bytes (tlT T)).length = at_ at HAL
        generalize hts : (l[k]'HK.out).1.ts = ts at HAL
        have HSS := Lib.hid (And.intro hs (And.intro hat hts))
        clear hs hat hts hn8
        go_wp2_with fail
        go_region_held3 (fun W => W.cell? ⟨b2, 0, none⟩ = some (.pointer (some ⟨d, 0, none⟩)) ∧ W.cell? ⟨b7, 0, none⟩ = some (.pointer (some ⟨L, 0, none⟩))) (go_keep)
          (first
            | (go_at_call 17; (with_reducible refine (HFI.out _ F4.out).mono ?_); rintro e w4 ⟨rfl, hw4⟩; have HW4 := Lib.hid hw4; have d2 := (hw4.cells HB.out).1; have d7 := (hw4.cells HB.out).2; clear hw4)
            | (go_at_call 18; (with_reducible refine (HRD.out _ HW4.out).mono ?_); rintro e w5 ⟨rfl, hw5⟩; have HW5 := Lib.hid hw5; have e2 := (hw5.cells HB.out).1; have e7 := (hw5.cells HB.out).2; clear hw5))
        clear c2 c7 cg cn d2 d7 HW4 F4 HRD HLS
        go_wp2_with fail
        (with_reducible refine (HAL.out _ HW5.out).mono ?_)
        rintro e w6 ⟨r, rfl, hr6, hrl6, hw6⟩
        obtain ⟨B, cr, rfl⟩ := row_form hr6
        have HW6 := Lib.hid (And.intro hr6 (And.intro hrl6 hw6))
        have f2 := (hw6.cells HB.out).1
        have f7 := (hw6.cells HB.out).2
        clear hr6 hrl6 hw6 HAL e2 e7
        go_upto_region 20 with fail
        go_cut [10] from 79 to 98 (fun so wx => ∃ v', Hid (CutSt T w0 wx L d M room l k v' so))
        case first =>
          have k2 : w6.cell? ⟨L, 2, none⟩ = some v := HW6.out.2.2.st.log.blk.cell 2
          have k3 : w6.cell? ⟨L, 3, none⟩ = some (i64 (n : Int)) := by have := HW6.out.2.2.st.cell3; rw [HN.out] at this; exact this
          have k22 := fun o => ((Chg.refl [] w6).alloc o).cell (p := ⟨L, 2, none⟩) HW6.out.2.2.st.log.blk.lt (by simp)
          have k32 := fun o => ((Chg.refl [] w6).alloc o).cell (p := ⟨L, 3, none⟩) HW6.out.2.2.st.log.blk.lt (by simp)
          have k72 := fun o => ((Chg.refl [] w6).alloc o).cell (p := ⟨b7, 0, none⟩) (cell_lt f7) (by simp)
          have hsm : ts.length ≤ 4194304 ∧ n < 100000000 := by
            have h1 := HW6.out.2.2.len_ HK.out
            have h2 := (parseN_le (tl := tlT T) (((l[k]'HK.out).1.bytes (tlT T) ++ (l[k]'HK.out).2).length + 1) ((l[k]'HK.out).1.bytes (tlT T) ++ (l[k]'HK.out).2)).2
            rw [HFN.out.parse (tlT_len T) HK.out, HSS.out.2.2] at h2
            have h3 := HW6.out.2.2.small HK.out
            rw [HNF.out] at h3
            exact ⟨Nat.le_trans h2 h1, h3⟩
          obtain ⟨n2, hn2⟩ : ∃ n2, n2 = n + ts.length := ⟨_, rfl⟩
          have E1 : IntKind.i64.wrap ((n : Int) + (ts.length : Int)) = (n2 : Int) := by rw [wrap_small _ (by omega) (by omega)]; omega
          have HN2 := Lib.hid hn2
          have HSM := Lib.hid hsm
          clear hn2 hsm
          have hrow : w6.ownsRow 6 3 1 v k ((((l.take k).map (·.1.first))).map fun n : Nat => i64 (n : Int)) := by
            have := HW6.out.2.2.st.log.row
            have e : ((l.take k).map (·.1.first)).length = k := by have := HK.out; simp; omega
            rw [e] at this; exact this
          have HROW6 := Lib.hid hrow
          have hsz : 6 ≤ w6.heap.size := by have := HW6.out.2.2.st.lo.1; have := HW6.out.2.2.st.log.blk.lt; omega
          have h60 : 6 ≤ w0.heap.size := HB.out.six
          have hrl : (recs k l).length = n := HN.out
          have hk1000 : k ≤ 1000 := by have := HK.out; omega
          have HK1 := Lib.hid hk1000
          have H60 := Lib.hid h60
          have HSZ := Lib.hid hsz
          have hcsz : w0.heap.size ≤ w6.heap.size := HW6.out.2.2.chg.size
          have HCSZ := Lib.hid hcsz
          have HM1 := Lib.hid (fun (v2 : Value) (w8 : World) (o : Obj) => Mid.first (w8 := w8) (v2 := v2) (n := n) HW6.out.2.2.st HW6.out.2.2.low HW6.out.2.2.out HW6.out.2.2.chg h60 o)
          clear hrow hsz h60 hrl hk1000 hcsz
          rw [show Op.load 50 (Operand.tmp 83) = ldOp2 50 (Operand.tmp 83) from rfl, show Op.load 3 (Operand.tmp 90) = ldOp2 3 (Operand.tmp 90) from rfl]
          have hX : ∀ t x, ldOp2 t x = Op.load t x := fun _ _ => rfl
          have HFSL : Hid (((l.take k).map (·.1.first)).length = k) := by show _ = k; have := HK.out; simp; omega
          obtain ⟨i0, hi, hz0, hz1, hz2⟩ := info_parts infoInt
          obtain ⟨j0, hj, hy0, hy1, hy2⟩ := info_parts infoStr
          have HOUT6 : Hid (w6.ownsRow w0.heap.size 9 1 u10 n ((recs k l).map encStr)) := by
            have := HW6.out.2.2.out; rw [HN.out] at this; exact this
          have hts : ts.length ≤ 4194304 := HSM.out.1
          have hn9 : n < 100000000 := HSM.out.2
          have HLT := Lib.hid (And.intro hts hn9)
          clear hts hn9
          go_region_held3 (fun W => W.cell? ⟨b7, 0, none⟩ = some (.pointer (some ⟨L, 0, none⟩))) (go_keep)
            (first
              | (refine step_append_row (by rfl) (.tmp 84) (.tmp 86) 50 rfl 6 3 i0 _ 1 8 Tryz.underlying50 hi hz0 hz1 hz2 rfl (by decide) v k ((((l.take k).map (·.1.first))).map fun n : Nat => i64 (n : Int)) rfl ((HROW6.out.alloc _).drew) ⟨w6.heap.size, 0, none⟩ 1 1 [i64 (n : Int)] rfl rfl (World.news_of_block (w := w6.alloc (.cells #[i64 (n : Int)] 3)) (Blk.new w6 3 #[i64 (n : Int)])) (by simp [Value.oneCell']) (by have := HK1.out; unfold maxLen; omega) (by have := HK1.out; omega) (by have := HSZ.out; simp; omega) ?_; intro v2 w8 hown8 hgrow8 hat8; obtain ⟨B2, q2, rfl⟩ := row_form hown8; have HM8 := Lib.hid (HM1.out _ w8 _ (by rw [HFSL.out]; exact hown8) hgrow8 hat8); have m7 := (HB.out.cells HM8.out.1.chg).2.1; have m3 : w8.cell? ⟨L, 3, none⟩ = some (i64 (n : Int)) := by have := HM8.out.1.blk.cell 3; rw [HN.out] at this; exact this
                 clear hown8 hgrow8 hat8)
              | (refine step_append_src (by rfl) (.tmp 95) (.tmp 96) 27 rfl w0.heap.size 9 j0 _ 1 16 Tryz.underlying27 hj hy0 hy1 hy2 rfl (by decide) u10 n ((recs k l).map encStr) rfl (by have := HM8.out.1.out; rw [HN.out] at this; exact this) (.slice B ts.length cr) w0.heap.size ts.length (ts.map encStr) rfl (own_chg' HW6.out.1 HM8.out.2 (rows_ne HW6.out.1 HROW6.out (by decide))) (by intro u hu; obtain ⟨x, _, rfl⟩ := List.mem_map.1 hu; rfl) (by have := HLT.out; unfold maxLen; omega) (by have := HLT.out; omega) HM8.out.1.chg.size ?_; intro u2 w9 hown9 hgrow9 hat9; have HM9 := Lib.hid (HM8.out.1.more (ts2 := ts) (by rw [HN.out]; exact hown9) hgrow9); have n7 := (HB.out.cells HM9.out.2).2.1; have n3 : w9.cell? ⟨L, 3, none⟩ = some (i64 (n : Int)) := by have := HM9.out.1.blk.cell 3; rw [HN.out] at this; exact this
                 have n2c := HM9.out.1.blk.cell 2
                 have p2 := HM9.out.1.blk.frozen 2
                 have p3 := (HM9.out.1.blk.set_ 2 (.slice B2 (k + 1) q2)).frozen 3
                 have p4 := (HM9.out.1.blk.set_ 2 (.slice B2 (k + 1) q2)).cell 3
                 have p5 := (HB.out.cells (HM9.out.2.setCell (p := ⟨L, 2, none⟩) (.inl (by simp)) (.slice B2 (k + 1) q2))).2.1
                 have p6 := (HB.out.cells ((HM9.out.2.setCell (p := ⟨L, 2, none⟩) (.inl (by simp)) (.slice B2 (k + 1) q2)).setCell (p := ⟨L, 3, none⟩) (.inl (by simp)) (i64 (n2 : Int)))).2.1
                 simp only [List.getElem?_toArray, List.getElem?_cons_succ, List.getElem?_cons_zero] at n2c
                 clear hown9 hgrow9 hat9))
          all_goals (
            have hput := HM9.out.1.put (n2 := n2) (x := i64 (n2 : Int)) rfl
            have e1 : (l.take (k + 1)).map (·.1.first) = (l.take k).map (·.1.first) ++ [n] := by
              rw [List.take_succ_eq_append_getElem HK.out, List.map_append, List.map_singleton, HNF.out]
            have e2 : recs (k + 1) l = recs k l ++ ts := by rw [recs_succ HK.out, HSS.out.2.2]
            have e3 : n2 = (recs (k + 1) l).length := by rw [e2, List.length_append, HN.out]; exact HN2.out
            have hfin : CutSt T w0 _ L d M room l k (.slice B2 (k + 1) q2) u2 := ⟨by rw [e1, ← e3]; exact hput.1, HM9.out.1.low, by rw [e2]; exact hput.2.1, hput.2.2⟩
            have HFIN := Lib.hid hfin
            clear hput e1 e2 e3 hfin n2c n3 m3 m7 n7 k2 k3 k22 k32 k72 p2 p3 p4 p5 p6 hX E1
            go_wp2_with fail
            go_meet
            exact ⟨_, HFIN.out⟩)
        case rest =>
          obtain ⟨v', HC5⟩ := hcut
          have hn8 : n < 100000000 := by
            have h3 := HW6.out.2.2.small HK.out
            rw [HNF.out] at h3
            exact h3
          have HFI2 := Lib.hid (fun W (h : CutSt T w0 W L d M room l k v' u10) => h.file_ n hn8)
          have HTR := Lib.hid (fun W (h : CutSt T w0 W L d M room l k v' u10) => trunc_at h.st.disk HK.out hl n HNF.out)
          rw [HSS.out.2.1] at HTR
          have F5 : Hid (CutSt T w0 wc.drew L d M room l k v' u10) := HC5.out.new_ (Chg.refl [] wc).drew
          have c2 := (HC5.out.cells HB.out).1
          have c7 := (HC5.out.cells HB.out).2
          have hbw : k + 1 < l.length → ((at_ : Int) == (s.length : Int)) = true := fun h1 => by
            have h2 := HFN.out.whole k HK.out h1
            have h3 := HSS.out.1
            rw [h2, List.append_nil] at h3
            rw [← HSS.out.2.1, h3]; simp
          have HBW := Lib.hid hbw
          clear hbw hn8
          generalize hbb : ((at_ : Int) == (s.length : Int)) = bb at HBW
          go_wp2_with fail
          clear hbb
          go_region_held3 (fun W => W.cell? ⟨b2, 0, none⟩ = some (.pointer (some ⟨d, 0, none⟩)) ∧ W.cell? ⟨b7, 0, none⟩ = some (.pointer (some ⟨L, 0, none⟩))) (go_keep)
            (first
              | (go_at_call 17; (with_reducible refine (HFI2.out _ F5.out).mono ?_); rintro e w7 ⟨rfl, hw7⟩; have HW7 := Lib.hid hw7; have d2 := (hw7.cells HB.out).1; have d7 := (hw7.cells HB.out).2; clear hw7)
              | (go_at_call 20; (with_reducible refine (HTR.out _ HW7.out).mono ?_); rintro e w8 ⟨rfl, hd8, hg8⟩; have HW8 := Lib.hid (HW7.out.done hd8 hg8); have e2 := (HW8.out.cells HB.out).1; have e7 := (HW8.out.cells HB.out).2; clear hd8 hg8))
          have hgk := HGK.out
          have hkl := HK.out
          have hkk : gk - 1 + (k + 1) = l.length := by omega
          have hkm : gk - 1 < gk := by omega
          clear hgk hkl
          have E9 : wrap64 ((k : Int) + 1) = (k : Int) + 1 := by have := HK.out; unfold wrap64; omega
          go_wp2_with fail
          go_roundg (gk - 1)
          case rel => exact ⟨k + 1, v', bb, hkk, rfl, rfl, HBW.out, HW8.out⟩
          case measure => exact hkm
      · obtain rfl : k = l.length := by omega
        have hLt : ¬ ((l.length : Int) < (l.length : Int)) := by omega
        have hcs := HLS.out.cells HB.out
        have c2 := hcs.1
        have c7 := hcs.2
        have hv := HLS.out.st.log.row
        obtain ⟨A2, q2, rfl⟩ := row_form hv
        have cv : wr.cell? ⟨L, 2, none⟩ = some _ := HLS.out.st.log.blk.cell 2
        have hcl : l.length ≤ cap := HCL.out
        have hlm : ((l.take l.length).map (·.1.first)).length = l.length := by simp
        rw [hlm] at cv
        have hlm2 := hlm
        clear hcs hv hlm hb hgk
        have HFIN : Hid (WSt T wr L d M (.slice A2 ((l.take l.length).map (·.1.first)).length q2) (l.map (·.1.first)) (recs l.length l).length ⟨cleaned (tlT T) l.length l, room, false⟩ ∧ wr.ownsRow w0.heap.size 9 1 u10 (recs l.length l).length ((recs l.length l).map encStr) ∧ Chg [d, M, L] w0 wr) := by
          have := HLS.out
          have h1 := this.st
          rw [List.take_length] at h1
          exact ⟨by rw [List.take_length]; exact h1, this.out, this.chg⟩
        rw [hlm2] at HFIN
        have HLV := Lib.hid HLS.out.low
        rw [hlm2] at HLV
        clear HLS
        rcases Nat.eq_or_lt_of_le hcl with hcap | hcap
        · subst hcap
          go_wp2_with fail
          (with_reducible refine (backward_any _ _ _).mono ?_)
          rintro e w4 ⟨bx, rfl, hcb, hg4⟩
          have HC4 := Lib.hid (HFIN.out.2.2.trans (hg4.mono (by simp)))
          have HF4 : Hid (_ ∧ _) := ⟨HFIN.out.1.new_ hg4, own_chg HFIN.out.2.1 hg4 (by simp)⟩
          have HCB := Lib.hid hcb
          have HSZ4 := Lib.hid (Nat.le_trans HFIN.out.2.2.size hg4.size)
          clear hg4 hcb cv c2 c7
          go_wp2_with fail
          refine range_none rfl HCB.out ?_
          intro Db W hDb hC hK
          obtain ⟨l', y, hly⟩ : ∃ l' y, l = l' ++ [y] := ⟨l.dropLast, l.getLast HNE.out, (List.dropLast_concat_getLast HNE.out).symm⟩
          have hfs : l.map (·.1.first) = l'.map (·.1.first) ++ [y.1.first] := by rw [hly]; simp
          have hE0 : EndSt T w0 W L d M Db y.1.first (l'.map (·.1.first)) (recs l.length l).length ⟨cleaned (tlT T) l.length l, room, false⟩ (.slice A2 l.length q2) u10 (recs l.length l) :=
            ⟨by rw [← hfs]; exact HF4.out.1.new_ hC, own_chg HF4.out.2 hC (by simp), HC4.out.trans (hC.mono (by simp)), hK⟩
          have hyg : lget (cleaned (tlT T) l.length l) y.1.first = some ⟨y.1.bytes (tlT T), (y.1.bytes (tlT T)).length⟩ := by
            have ha := hE0.st.disk.asc
            dsimp only at ha
            subst hly
            exact done_get ha
          have hyn : y.1.first < 100000000 := hE0.st.disk.asc.small _ (get_mem hyg)
          have HSY : Hid (DCall 23 #[.pointer (some ⟨d, 0, none⟩), strV (logName y.1.first)] d M ⟨cleaned (tlT T) l.length l, room, false⟩ 0 ⟨cleaned (tlT T) l.length l, room, false⟩) := fun W2 hW2 => by
            have := sync_ok d M y.1.first _ _ W2 hW2 hyn rfl hyg (by dsimp only; rw [cleaned_len]; exact hl)
            unfold synced at this
            dsimp only at this
            rw [lset_same hW2.asc hyg] at this
            exact this
          have hll : (l'.map (·.1.first)).length ≤ 1000 := by have := congrArg List.length hly; simp at this ⊢; omega
          have HLS2 := Lib.hid (fun W2 (h : EndSt T w0 W2 L d M Db y.1.first (l'.map (·.1.first)) (recs l.length l).length ⟨cleaned (tlT T) l.length l, room, false⟩ (.slice A2 l.length q2) u10 (recs l.length l)) => (h.st.last_ hyn hll))
          have HD6 : Hid (6 ≤ Db ∧ w0.heap.size ≤ Db) := by have := HB.out.six; have := HSZ4.out; exact ⟨by omega, by omega⟩
          have c2 := (HB.out.cells hE0.chg).1
          have c7 := (HB.out.cells hE0.chg).2.1
          have HE0 := Lib.hid hE0
          have HE0d : Hid (EndSt T w0 W.drew L d M Db y.1.first (l'.map (·.1.first)) (recs l.length l).length ⟨cleaned (tlT T) l.length l, room, false⟩ (.slice A2 l.length q2) u10 (recs l.length l)) := hE0.new_ (Chg.refl [] W).drew
          have HFS := Lib.hid hfs
          clear hDb hC hK HCB HC4 HF4 hE0 hyg hyn hll hly hfs
          go_wp2_with fail
          go_region_held3 (fun W => W.cell? ⟨b2, 0, none⟩ = some (.pointer (some ⟨d, 0, none⟩)) ∧ W.cell? ⟨b7, 0, none⟩ = some (.pointer (some ⟨L, 0, none⟩))) (go_keep)
            (first
              | (go_at_call 24; (with_reducible refine (HLS2.out _ HE0d.out).mono ?_); rintro e w5 ⟨rfl, _, hg5⟩; have HE5 := Lib.hid (HE0d.out.new_ hg5); have d2 := (HB.out.cells HE5.out.chg).1; have d7 := (HB.out.cells HE5.out.chg).2.1; clear hg5)
              | (go_at_call 23; (with_reducible refine (HSY.out _ HE5.out.st.disk).mono ?_); rintro e w6 ⟨rfl, hd6, hg6⟩; have HE6 := Lib.hid (HE5.out.sync_ hd6 hg6); have e2 := (HB.out.cells HE6.out.chg).1; have e7 := (HB.out.cells HE6.out.chg).2.1; clear hd6 hg6))
          clear c2 c7 d2 d7
          go_wp2_with fail
          refine ⟨by simp, .inl ⟨_, _, rfl, run_takeDeferred HE6.out.df, ?_⟩⟩
          have hput := HE6.out.put_ HD6.out.1 (.deferred none)
          have hcg : Chg [d, M] w (w6.putObj Db (.deferred none)) := by
            have h1 : Chg [d, M, L, Db] w0 (w6.putObj Db (.deferred none)) := (HE6.out.chg.mono (by intro k _ hk; simp at hk ⊢; omega)).trans ((chg_putObj w6 Db _).mono (by intro k _ hk; simp at hk ⊢; omega))
            refine HCW.out.then_ h1 (fun i hi hm => ?_)
            have h2 := HNEW.out
            have h3 := HD6.out.2
            have h4 := HCW.out.size
            simp at hm ⊢; omega
          refine ⟨_, results_tmp3 rfl _ _ _, ?_⟩
          refine ⟨L, _, u10, rfl, by rw [HFS.out, ← HRM.out]; exact hput.1, own_base hput.2 (fun k hk => Nat.le_trans HCW.out.size (hput.2.lt k hk).1), hcg, HNEW.out, fun q hq => Nat.le_trans HCW.out.size (HLV.out q hq)⟩
        · have hcapi : ¬ ((cap : Int) = (l.length : Int)) := by omega
          go_wp2_with fail
          (with_reducible refine (backward_any _ _ _).mono ?_)
          rintro e w4 ⟨bx, rfl, hcb, hg4⟩
          have HC4 := Lib.hid (HFIN.out.2.2.trans (hg4.mono (by simp)))
          have HF4 : Hid (_ ∧ _) := ⟨HFIN.out.1.new_ hg4, own_chg HFIN.out.2.1 hg4 (by simp)⟩
          have HCB := Lib.hid hcb
          have HSZ4 := Lib.hid (Nat.le_trans HFIN.out.2.2.size hg4.size)
          clear hg4 hcb cv c2 c7
          go_wp2_with fail
          refine range_none rfl HCB.out ?_
          intro Db W hDb hC hK
          obtain ⟨l', y, hly⟩ : ∃ l' y, l = l' ++ [y] := ⟨l.dropLast, l.getLast HNE.out, (List.dropLast_concat_getLast HNE.out).symm⟩
          have hfs : l.map (·.1.first) = l'.map (·.1.first) ++ [y.1.first] := by rw [hly]; simp
          have hE0 : EndSt T w0 W L d M Db y.1.first (l'.map (·.1.first)) (recs l.length l).length ⟨cleaned (tlT T) l.length l, room, false⟩ (.slice A2 l.length q2) u10 (recs l.length l) :=
            ⟨by rw [← hfs]; exact HF4.out.1.new_ hC, own_chg HF4.out.2 hC (by simp), HC4.out.trans (hC.mono (by simp)), hK⟩
          have hyg : lget (cleaned (tlT T) l.length l) y.1.first = some ⟨y.1.bytes (tlT T), (y.1.bytes (tlT T)).length⟩ := by
            have ha := hE0.st.disk.asc
            dsimp only at ha
            subst hly
            exact done_get ha
          have hyn : y.1.first < 100000000 := hE0.st.disk.asc.small _ (get_mem hyg)
          have HSY : Hid (DCall 23 #[.pointer (some ⟨d, 0, none⟩), strV (logName y.1.first)] d M ⟨cleaned (tlT T) l.length l, room, false⟩ 0 ⟨cleaned (tlT T) l.length l, room, false⟩) := fun W2 hW2 => by
            have := sync_ok d M y.1.first _ _ W2 hW2 hyn rfl hyg (by dsimp only; rw [cleaned_len]; exact hl)
            unfold synced at this
            dsimp only at this
            rw [lset_same hW2.asc hyg] at this
            exact this
          have hll : (l'.map (·.1.first)).length ≤ 1000 := by have := congrArg List.length hly; simp at this ⊢; omega
          have HLS2 := Lib.hid (fun W2 (h : EndSt T w0 W2 L d M Db y.1.first (l'.map (·.1.first)) (recs l.length l).length ⟨cleaned (tlT T) l.length l, room, false⟩ (.slice A2 l.length q2) u10 (recs l.length l)) => (h.st.last_ hyn hll))
          have HD6 : Hid (6 ≤ Db ∧ w0.heap.size ≤ Db) := by have := HB.out.six; have := HSZ4.out; exact ⟨by omega, by omega⟩
          have c2 := (HB.out.cells hE0.chg).1
          have c7 := (HB.out.cells hE0.chg).2.1
          have HE0 := Lib.hid hE0
          have HE0d : Hid (EndSt T w0 W.drew L d M Db y.1.first (l'.map (·.1.first)) (recs l.length l).length ⟨cleaned (tlT T) l.length l, room, false⟩ (.slice A2 l.length q2) u10 (recs l.length l)) := hE0.new_ (Chg.refl [] W).drew
          have HFS := Lib.hid hfs
          clear hDb hC hK HCB HC4 HF4 hE0 hyg hyn hll hly hfs
          go_wp2_with fail
          go_region_held3 (fun W => W.cell? ⟨b2, 0, none⟩ = some (.pointer (some ⟨d, 0, none⟩)) ∧ W.cell? ⟨b7, 0, none⟩ = some (.pointer (some ⟨L, 0, none⟩))) (go_keep)
            (first
              | (go_at_call 24; (with_reducible refine (HLS2.out _ HE0d.out).mono ?_); rintro e w5 ⟨rfl, _, hg5⟩; have HE5 := Lib.hid (HE0d.out.new_ hg5); have d2 := (HB.out.cells HE5.out.chg).1; have d7 := (HB.out.cells HE5.out.chg).2.1; clear hg5)
              | (go_at_call 23; (with_reducible refine (HSY.out _ HE5.out.st.disk).mono ?_); rintro e w6 ⟨rfl, hd6, hg6⟩; have HE6 := Lib.hid (HE5.out.sync_ hd6 hg6); have e2 := (HB.out.cells HE6.out.chg).1; have e7 := (HB.out.cells HE6.out.chg).2.1; clear hd6 hg6))
          clear c2 c7 d2 d7
          go_wp2_with fail
          refine ⟨by simp, .inl ⟨_, _, rfl, run_takeDeferred HE6.out.df, ?_⟩⟩
          have hput := HE6.out.put_ HD6.out.1 (.deferred none)
          have hcg : Chg [d, M] w (w6.putObj Db (.deferred none)) := by
            have h1 : Chg [d, M, L, Db] w0 (w6.putObj Db (.deferred none)) := (HE6.out.chg.mono (by intro k _ hk; simp at hk ⊢; omega)).trans ((chg_putObj w6 Db _).mono (by intro k _ hk; simp at hk ⊢; omega))
            refine HCW.out.then_ h1 (fun i hi hm => ?_)
            have h2 := HNEW.out
            have h3 := HD6.out.2
            have h4 := HCW.out.size
            simp at hm ⊢; omega
          refine ⟨_, results_tmp3 rfl _ _ _, ?_⟩
          refine ⟨L, _, u10, rfl, by rw [HFS.out, ← HRM.out]; exact hput.1, own_base hput.2 (fun k hk => Nat.le_trans HCW.out.size (hput.2.lt k hk).1), hcg, HNEW.out, fun q hq => Nat.le_trans HCW.out.size (HLV.out q hq)⟩
end Go.Proofs.YtofnehgjkdcmnaaGreatDoor
