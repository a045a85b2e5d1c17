/- A log's files, as its last segment's file is changed, or a new one made. -/
import Derived.Test.YtofnehgjkdcmnaaGreatDoorGLgOpen
import Derived.Test.YtofnehgjkdcmnaaGreatDoorGLgDisk7
namespace Go.Proofs.YtofnehgjkdcmnaaGreatDoor
open Go.RowKit Hg

section
variable {tl : Byts → Byts} {gs : List Seg} {g : Seg} {next n m : Nat} {all : List Byts} {x : TornAt}
theorem files_none (gs : List Seg) (g : Seg) (next : Nat) : filesOf tl gs g next .none = gs.map (Seg.file tl) ++ (g.first, ⟨g.bytes tl, g.sure⟩) :: [] := rfl
theorem files_get (h : Asc (filesOf tl gs g next .none)) : lget (filesOf tl gs g next .none) g.first = some ⟨g.bytes tl, g.sure⟩ := by
  rw [files_none] at h ⊢; exact get_mid h
theorem files_set (h : Asc (filesOf tl gs g next .none)) (f : LFile) : lset (filesOf tl gs g next .none) g.first f = gs.map (Seg.file tl) ++ [(g.first, f)] := by
  rw [files_none] at h ⊢; exact set_mid h f
theorem files_add (h : Asc (filesOf tl gs g next .none)) (s : Byts) : lset (filesOf tl gs g next .none) g.first ⟨g.bytes tl ++ frm tl s, g.sure⟩ = filesOf tl gs { g with ts := g.ts ++ [s] } (next + 1) .none := by
  rw [files_set h]
  simp [filesOf, Seg.file, Seg.bytes, frs_append, frs]
theorem files_torn (h : Asc (filesOf tl gs g next .none)) (p : Byts) : lset (filesOf tl gs g next .none) g.first ⟨g.bytes tl ++ p, g.sure⟩ = filesOf tl gs g next (.tail p) := by
  rw [files_set h]; rfl
theorem files_sync (h : Asc (filesOf tl gs g next .none)) : lset (filesOf tl gs g next .none) g.first ⟨g.bytes tl, (g.bytes tl).length⟩ = filesOf tl gs { g with sure := (g.bytes tl).length } next .none := by
  rw [files_set h]; rfl
theorem files_made (s : Byts) : filesOf tl gs g next .none ++ [(next, ⟨frm tl s, 0⟩)] = filesOf tl (gs ++ [g]) ⟨next, [s], 0⟩ (next + 1) .none := by
  simp [filesOf, Seg.file, Seg.bytes, frs]
theorem files_madeTorn (p : Byts) : filesOf tl gs g next .none ++ [(next, ⟨p, 0⟩)] = filesOf tl gs g next (.new p) := by
  simp [filesOf, Seg.file]
theorem live_weak (h : Live tl gs g next all m x) (hn : n ≤ m) : Live tl gs g next all n x := by
  obtain ⟨i, h1, h2, h3⟩ := h.cnt
  exact ⟨h.chain, h.old, h.small, h.all_, h.sure, ⟨i, h1, h2, by omega⟩, h.torn⟩
theorem live_next (h : Live tl gs g next all n x) : next = all.length := by
  have := h.chain.end_
  rw [h.all_]; omega
theorem live_cnt (h : Live tl gs g next all n x) : n ≤ all.length := by
  obtain ⟨i, h1, _, h3⟩ := h.cnt
  rw [h.all_, texts_append, List.length_append]
  simp only [texts, List.flatMap_cons, List.flatMap_nil, List.append_nil] at *
  omega
theorem live_first (h : Live tl gs g next all n x) (hne : g.ts ≠ []) : g.first < next := by
  obtain ⟨b, h1, h2⟩ := h.chain.split
  have h3 := h2.1
  have h4 := h2.2
  simp only [Chain] at h4
  have := List.length_pos_iff.2 hne
  omega
theorem files_lt (h : Live tl gs g next all n .none) (ha : Asc (filesOf tl gs g next .none)) (hne : g.ts ≠ []) : ∀ y ∈ filesOf tl gs g next .none, y.1 < next := by
  have hf := live_first h hne
  intro y hy
  rw [files_none] at hy ha
  have hp := ha.lt
  rw [List.pairwise_append] at hp
  rcases List.mem_append.1 hy with h1 | h1
  · have := hp.2.2 y h1 (g.first, ⟨g.bytes tl, g.sure⟩) (List.mem_singleton.2 rfl)
    dsimp only at this; omega
  · simp only [List.mem_singleton] at h1; subst h1; exact hf
theorem bytes_ne (hb : 0 < (g.bytes tl).length) : g.ts ≠ [] := by
  intro e
  unfold Seg.bytes at hb
  rw [e] at hb
  simp [frs] at hb
theorem frm_take (ht : ∀ s, (tl s).length = 4) (s : Byts) (hs : s.length ≤ 65536) (r : Nat) (hr : r < (frm tl s).length) : Torn tl ((frm tl s).take r) :=
  .inr ⟨s, hs, by rw [List.length_take]; omega, List.take_prefix _ _⟩
/-- what is found, with its last file as pieces have it -/
theorem found_pieces {f : Hg.Found} {ts : List Byts} (h : Fnd tl gs g next ts f) : ∃ gs' g' p, foundFiles tl gs g next f = foundFiles tl gs' g' next (.last p) ∧ Fnd tl gs' g' next ts (.last p) := by
  cases f with
  | last p => exact ⟨gs, g, p, rfl, h⟩
  | fresh p =>
    refine ⟨gs ++ [g], ⟨next, [], 0⟩, p, ?_, ⟨h.chain.append ⟨rfl, rfl⟩, fun y hy => ?_, fun y hy t ht => ?_, ?_, h.torn.1⟩⟩
    · simp [foundFiles, Seg.bytes, frs]
    · rcases List.mem_append.1 hy with hy | hy
      · exact h.ne y hy
      · simp only [List.mem_singleton] at hy; subst hy; exact h.torn.2
    · rcases List.mem_append.1 hy with hy | hy
      · exact h.small y hy t ht
      · simp only [List.mem_singleton] at hy; subst hy; simp at ht
    · rw [h.ts_, texts_append (gs ++ [g])]; simp [texts]
end
end Go.Proofs.YtofnehgjkdcmnaaGreatDoor

/- What a log's Append and Sync do, as the plain law has it. -/
namespace Go.Proofs.YtofnehgjkdcmnaaGreatDoor
open Go.RowKit Hg

/-- rows of messages and of texts are kept -/
def KeepR (w w' : World) : Prop := ∀ (base : Nat) (e : TypeId) (size n : Nat) (g : Value) (xs : List Value), e = 38 ∨ e = 9 → w.ownsRow base e size g n xs → w'.ownsRow base e size g n xs
theorem KeepR.refl (w : World) : KeepR w w := fun _ _ _ _ _ _ _ h => h
theorem KeepR.trans {w w' w'' : World} (h : KeepR w w') (k : KeepR w' w'') : KeepR w w'' := fun _ _ _ _ _ _ he hr => k _ _ _ _ _ _ he (h _ _ _ _ _ _ he hr)
theorem KeepR.of_new {w w' : World} (h : Chg [] w w') : KeepR w w' := fun _ _ _ _ _ _ _ hr => own_chg hr h (by simp)
theorem WSt.keep {T : Nat → Nat} {w w' : World} {L d M : Nat} {v : Value} {firsts : List Nat} {next : Nat} {D : LD} (h : WSt T w L d M v firsts next D) (hg : Chg (L :: d :: M :: rowOf v) w w') : KeepR w w' := by
  intro base e size n g xs he hr
  refine own_chg' hr hg fun q hq => ?_
  simp only [List.mem_cons, not_or]
  refine ⟨?_, ?_, ?_, ?_⟩
  · rintro rfl; exact rowOf_ne hr h.log.blk (by rcases he with rfl | rfl <;> decide) hq
  · rintro rfl; exact rowOf_ne hr h.disk.blk (by rcases he with rfl | rfl <;> decide) hq
  · rintro rfl; exact row_ne_map h.disk.map hr hq
  · exact rows_ne hr h.log.row (by rcases he with rfl | rfl <;> decide) q hq

def NewNe (g : Seg) : TornAt → Prop
  | .new _ => g.ts ≠ []
  | _ => True
structure LogSt (T : Nat → Nat) (B : Nat) (w : World) (L d M : Nat) (v : Value) (D : LD) (gs : List Seg) (g : Seg) (all : List Byts) (n : Nat) (x : TornAt) : Prop where
  st : WSt T w L d M v (gs.map (·.first) ++ [g.first]) all.length D
  live : Live (tlT T) gs g all.length all n x
  files : D.files = filesOf (tlT T) gs g all.length x
  alive : D.dead = false → x = .none
  newne : NewNe g x
  low : B ≤ L ∧ B ≤ d ∧ B ≤ M ∧ ∀ q ∈ rowOf v, B ≤ q
  few : D.files.length ≤ 64
section
variable {T : Nat → Nat} {B : Nat} {w w' : World} {L d M : Nat} {v : Value} {D : LD} {gs : List Seg} {g : Seg} {all : List Byts} {n : Nat} {x : TornAt}
theorem LogSt.new_ (h : LogSt T B w L d M v D gs g all n x) (hg : Chg [] w w') : LogSt T B w' L d M v D gs g all n x := ⟨h.st.new_ hg, h.live, h.files, h.alive, h.newne, h.low, h.few⟩
theorem LogSt.below (h : LogSt T B w L d M v D gs g all n x) (hg : Chg (L :: d :: M :: rowOf v) w w') : Below B w w' :=
  hg.below' (fun k hk => by
    simp only [List.mem_cons] at hk
    rcases hk with rfl | rfl | rfl | hk
    · exact h.low.1
    · exact h.low.2.1
    · exact h.low.2.2.1
    · exact h.low.2.2.2 k hk) (Nat.le_trans h.low.1 (Nat.le_of_lt h.st.log.blk.lt))
theorem LogSt.first_small (h : LogSt T B w L d M v D gs g all n x) : g.first < 100000000 := by
  have h1 := h.st.disk.asc.small
  have hm : ∃ f, (g.first, f) ∈ D.files := by
    rw [h.files]
    cases x with
    | none => exact ⟨_, by simp only [filesOf]; exact List.mem_append_right _ (List.mem_singleton.2 rfl)⟩
    | tail p => exact ⟨_, by simp only [filesOf]; exact List.mem_append_right _ (List.mem_singleton.2 rfl)⟩
    | new p => exact ⟨_, by simp only [filesOf]; exact List.mem_append_right _ (List.mem_cons_self ..)⟩
  obtain ⟨f, hf⟩ := hm
  exact h1 _ hf
theorem LogSt.gs_len (h : LogSt T B w L d M v D gs g all n x) : gs.length ≤ 63 := by
  have := h.few
  rw [h.files] at this
  cases x <;> simp [filesOf] at this <;> omega
theorem LogSt.segs_len (h : LogSt T B w L d M v D gs g all n x) : (gs.map (·.first)).length ≤ 1000 := by have := h.gs_len; simp; omega

/-- what lay, and so Append of one record, does -/
def LayQ (T : Nat → Nat) (B : Nat) (w : World) (L d M : Nat) (D : LD) (all : List Byts) (n : Nat) (s : Byts) (c : Int) (w' : World) : Prop :=
  ∃ v' D' gs' g' x', LogSt T B w' L d M v' D' gs' g' (if c = 0 then all ++ [s] else all) n x' ∧ KeepR w w' ∧ Below B w w' ∧
    (D.dead = false → 65543 ≤ D.room → D.files.length < 64 → c = 0 ∧ D'.dead = false ∧ D.room ≤ D'.room + 65543)

theorem dcall_dead {f : Nat} {args : Array Value} (h : ∀ W, DiskAt W d M D → Calls Tryz.prog f args W (Ret (i64 12) W)) : DCall f args d M D 12 D :=
  fun W hW => (h W hW).mono fun _ _ ⟨h1, h2⟩ => ⟨h1, hW.new_ h2, h2.mono (by simp)⟩
theorem chg3 {v : Value} (h : Chg [L, d, M] w w') : Chg (L :: d :: M :: rowOf v) w w' := h.mono (by intro k _ hk; simp at hk ⊢; rcases hk with e | e | e <;> simp [e])
theorem chg2 {v : Value} (h : Chg [d, M] w w') : Chg (L :: d :: M :: rowOf v) w w' := h.mono (by intro k _ hk; simp at hk ⊢; rcases hk with e | e <;> simp [e])

theorem lay_dead (h : LogSt T B w L d M v D gs g all n x) (s : Byts) (hs : s.length ≤ 65536) (hm : all.length < 100000000) (hd : D.dead = true) :
    Calls Tryz.prog 36 #[.pointer (some ⟨L, 0, none⟩), strV s] w fun e w' => e = .returned (i64 12) ∧ LayQ T B w L d M D all n s 12 w' := by
  have fin : ∀ w', WSt T w' L d M v (gs.map (·.first) ++ [g.first]) all.length D → Chg (L :: d :: M :: rowOf v) w w' → LayQ T B w L d M D all n s 12 w' := fun w' h1 h2 =>
    ⟨v, D, gs, g, x, ⟨h1, h.live, h.files, h.alive, h.newne, h.low, h.few⟩, h.st.keep h2, h.below h2, fun h0 => by rw [hd] at h0; cases h0⟩
  rcases Nat.lt_or_ge (fileOr D.files g.first).s.length 4096 with hz | hz
  · exact (lay_aE T w L d M v (gs.map (·.first)) g.first all.length s D D 12 h.st h.first_small hm h.segs_len hs hz
      (dcall_dead fun W hW => append_dead d M g.first D _ W hW h.first_small hd) rfl).mono fun _ _ ⟨h1, h2, h3⟩ => ⟨h1, fin _ h2 (chg3 h3)⟩
  · exact (lay_bE T w L d M v (gs.map (·.first)) g.first all.length s D D D 12 12 h.st h.first_small hm h.segs_len hs hz
      (dcall_dead fun W hW => sync_dead d M g.first D W hW h.first_small hd) (dcall_dead fun W hW => append_dead d M all.length D _ W hW hm hd) rfl).mono fun _ _ ⟨h1, h2, h3⟩ => ⟨h1, fin _ h2 (chg2 h3)⟩
theorem filesOf_len (gs : List Seg) (g : Seg) (next : Nat) (tl : Byts → Byts) : (filesOf tl gs g next .none).length = gs.length + 1 := by simp [filesOf]
theorem lay_small (h : LogSt T B w L d M v D gs g all n .none) (s : Byts) (hs : s.length ≤ 65536) (hm : all.length < 100000000) (hd : D.dead = false) (hz : (g.bytes (tlT T)).length < 4096) :
    ∃ c, Calls Tryz.prog 36 #[.pointer (some ⟨L, 0, none⟩), strV s] w fun e w' => e = .returned (i64 c) ∧ LayQ T B w L d M D all n s c w' := by
  have hfl := h.files
  have ha := h.st.disk.asc
  rw [hfl] at ha
  have hg : lget D.files g.first = some ⟨g.bytes (tlT T), g.sure⟩ := by rw [hfl]; exact files_get ha
  have hfo : fileOr D.files g.first = ⟨g.bytes (tlT T), g.sure⟩ := by unfold fileOr; rw [hg]; rfl
  have hF : (frm (tlT T) s).length = s.length + 7 := frm_length (tlT_len T) s
  have hl64 : D.files.length ≤ 1000 := by have := h.few; omega
  have hlen : D.files.length = gs.length + 1 := by rw [hfl, filesOf_len]
  rcases Nat.lt_or_ge D.room (frm (tlT T) s).length with hr | hr
  · refine ⟨12, (lay_aE T w L d M v (gs.map (·.first)) g.first all.length s D (addTorn D g.first ⟨g.bytes (tlT T), g.sure⟩ (frm (tlT T) s)) 12 h.st h.first_small hm h.segs_len hs (by rw [hfo]; exact hz)
      (fun W hW => append_oldTorn d M g.first D ⟨g.bytes (tlT T), g.sure⟩ _ W hW h.first_small hd hg hl64 (by dsimp only; omega) hr) rfl).mono fun _ _ ⟨h1, h2, h3⟩ => ⟨h1, v, _, gs, g, .tail ((frm (tlT T) s).take D.room), ⟨h2, h.live.die (frm_take (tlT_len T) s hs _ hr), ?_, ?_, trivial, h.low, ?_⟩, h.st.keep (chg3 h3), h.below (chg3 h3), fun _ h5 _ => by omega⟩⟩
    · unfold addTorn; dsimp only; rw [hfl, files_torn ha]; rfl
    · intro h0; cases h0
    · unfold addTorn; dsimp only; rw [hfl, files_torn ha]; have := h.few; rw [hlen] at this; simp [filesOf]; omega
  · refine ⟨0, (lay_a T w L d M v (gs.map (·.first)) g.first all.length s D (added D g.first ⟨g.bytes (tlT T), g.sure⟩ (frm (tlT T) s)) h.st h.first_small hm h.segs_len hs (by rw [hfo]; exact hz)
      (fun W hW => append_old d M g.first D ⟨g.bytes (tlT T), g.sure⟩ _ W hW h.first_small hd hg hl64 (by dsimp only; omega) hr)).mono fun _ _ ⟨h1, h2, h3⟩ => ⟨h1, v, added D g.first ⟨g.bytes (tlT T), g.sure⟩ (frm (tlT T) s), gs, { g with ts := g.ts ++ [s] }, .none, ⟨?_, ?_, ?_, ?_, trivial, h.low, ?_⟩, h.st.keep (chg3 h3), h.below (chg3 h3), fun _ h5 _ => ⟨rfl, rfl, ?_⟩⟩⟩
    · simpa using h2
    · simpa using h.live.add s hs
    · unfold added; dsimp only; rw [hfl, files_add ha]; simp
    · intro _; rfl
    · unfold added; dsimp only; rw [hfl, files_add ha, filesOf_len]; have := h.few; omega
    · unfold added; dsimp only; omega
theorem lay_big (h : LogSt T B w L d M v D gs g all n .none) (s : Byts) (hs : s.length ≤ 65536) (hm : all.length < 100000000) (hd : D.dead = false) (hz : 4096 ≤ (g.bytes (tlT T)).length) :
    ∃ c, Calls Tryz.prog 36 #[.pointer (some ⟨L, 0, none⟩), strV s] w fun e w' => e = .returned (i64 c) ∧ LayQ T B w L d M D all n s c w' := by
  have hfl := h.files
  have ha := h.st.disk.asc
  rw [hfl] at ha
  have hg : lget D.files g.first = some ⟨g.bytes (tlT T), g.sure⟩ := by rw [hfl]; exact files_get ha
  have hfo : fileOr D.files g.first = ⟨g.bytes (tlT T), g.sure⟩ := by unfold fileOr; rw [hg]; rfl
  have hF : (frm (tlT T) s).length = s.length + 7 := frm_length (tlT_len T) s
  have hl64 : D.files.length ≤ 1000 := by have := h.few; omega
  have hlen : D.files.length = gs.length + 1 := by rw [hfl, filesOf_len]
  have hne : g.ts ≠ [] := bytes_ne (tl := tlT T) (by omega)
  have hf1 : (synced D g.first ⟨g.bytes (tlT T), g.sure⟩).files = filesOf (tlT T) gs { g with sure := (g.bytes (tlT T)).length } all.length .none := by
    unfold synced; dsimp only; rw [hfl, files_sync ha]
  have hS : DCall 23 #[.pointer (some ⟨d, 0, none⟩), strV (logName g.first)] d M D 0 (synced D g.first ⟨g.bytes (tlT T), g.sure⟩) := fun W hW => sync_ok d M g.first D _ W hW h.first_small hd hg hl64
  have hlive1 : Live (tlT T) gs { g with sure := (g.bytes (tlT T)).length } all.length all n .none := live_weak h.live.sync (live_cnt h.live)
  have hlen1 : (synced D g.first ⟨g.bytes (tlT T), g.sure⟩).files.length = gs.length + 1 := by rw [hf1, filesOf_len]
  have hd1 : (synced D g.first ⟨g.bytes (tlT T), g.sure⟩).dead = false := hd
  have hr1 : (synced D g.first ⟨g.bytes (tlT T), g.sure⟩).room = D.room := rfl
  generalize synced D g.first ⟨g.bytes (tlT T), g.sure⟩ = D1 at hf1 hS hlen1 hd1 hr1
  have hlt1 : ∀ W, DiskAt W d M D1 → ∀ y ∈ D1.files, y.1 < all.length := fun W hW => by
    have h1 := hW.asc
    rw [hf1] at h1 ⊢
    exact files_lt hlive1 h1 hne
  rcases Nat.lt_or_ge D1.files.length 64 with h64 | h64
  · rcases Nat.lt_or_ge D.room (frm (tlT T) s).length with hr | hr
    · refine ⟨12, (lay_bE T w L d M v (gs.map (·.first)) g.first all.length s D D1 (madeTorn D1 all.length (frm (tlT T) s)) 0 12 h.st h.first_small hm h.segs_len hs (by rw [hfo]; exact hz) hS
        (fun W hW => append_newTorn d M all.length D1 _ W hW hm hd1 (hlt1 W hW) h64 (by omega) (by omega)) rfl).mono fun _ _ ⟨h1, h2, h3⟩ => ⟨h1, v, _, gs, { g with sure := (g.bytes (tlT T)).length }, .new ((frm (tlT T) s).take D.room), ⟨h2, h.live.dieNew (frm_take (tlT_len T) s hs _ hr), ?_, ?_, hne, h.low, ?_⟩, h.st.keep (chg2 h3), h.below (chg2 h3), fun _ h5 _ => by omega⟩⟩
      · unfold madeTorn; dsimp only; rw [hf1, hr1, files_madeTorn]; rfl
      · intro h0; cases h0
      · unfold madeTorn; dsimp only; rw [List.length_append]; simp only [List.length_singleton]; omega
    · refine ⟨0, (lay_b T w L d M v (gs.map (·.first)) g.first all.length s D D1 (made D1 all.length (frm (tlT T) s)) 0 h.st h.first_small hm h.segs_len hs (by rw [hfo]; exact hz) hS
        (fun W hW => append_new d M all.length D1 _ W hW hm hd1 (hlt1 W hW) h64 (by omega) (by omega))).mono fun _ _ ⟨v', h1, h2, h3, h4⟩ => ⟨h1, v', made D1 all.length (frm (tlT T) s), gs ++ [{ g with sure := (g.bytes (tlT T)).length }], ⟨all.length, [s], 0⟩, .none, ⟨?_, ?_, ?_, ?_, trivial, ⟨h.low.1, h.low.2.1, h.low.2.2.1, ?_⟩, ?_⟩, h.st.keep h3, h.below h3, fun _ h5 _ => ⟨rfl, rfl, ?_⟩⟩⟩
      · simpa using h2
      · simpa using h.live.roll hne s hs
      · unfold made; dsimp only; rw [hf1, files_made]; simp
      · intro _; rfl
      · intro q hq
        rcases h4 q hq with h5 | h5
        · exact h.low.2.2.2 q h5
        · exact Nat.le_trans (Nat.le_trans h.low.1 (Nat.le_of_lt h.st.log.blk.lt)) h5
      · unfold made; dsimp only; rw [List.length_append]; simp only [List.length_singleton]; omega
      · unfold made; dsimp only; omega
  · refine ⟨8, (lay_bE T w L d M v (gs.map (·.first)) g.first all.length s D D1 D1 0 8 h.st h.first_small hm h.segs_len hs (by rw [hfo]; exact hz) hS
      (fun W hW => (append_full d M all.length D1 _ W hW hm hd1 (get_none (hlt1 W hW)) h64).mono fun _ _ ⟨h1, h2⟩ => ⟨h1, hW.new_ h2, h2.mono (by simp)⟩) rfl).mono fun _ _ ⟨h1, h2, h3⟩ => ⟨h1, v, _, gs, { g with sure := (g.bytes (tlT T)).length }, .none, ⟨h2, hlive1, hf1, fun _ => rfl, trivial, h.low, ?_⟩, h.st.keep (chg2 h3), h.below (chg2 h3), fun _ _ h6 => by omega⟩⟩
    rw [hlen1]; have := h.few; omega
theorem lay_live (h : LogSt T B w L d M v D gs g all n x) (s : Byts) (hs : s.length ≤ 65536) (hm : all.length < 100000000) :
    ∃ c, Calls Tryz.prog 36 #[.pointer (some ⟨L, 0, none⟩), strV s] w fun e w' => e = .returned (i64 c) ∧ LayQ T B w L d M D all n s c w' := by
  cases hd : D.dead with
  | true => exact ⟨12, lay_dead h s hs hm hd⟩
  | false =>
    obtain rfl := h.alive hd
    rcases Nat.lt_or_ge (g.bytes (tlT T)).length 4096 with hz | hz
    · exact lay_small h s hs hm hd hz
    · exact lay_big h s hs hm hd hz
/-- Sync, of a disk that is alive or dead -/
theorem sync_live (h : LogSt T B w L d M v D gs g all n x) :
    ∃ c, (D.dead = false → c = 0) ∧ Calls Tryz.prog 9 #[.pointer (some ⟨L, 0, none⟩)] w fun e w' => e = .returned (i64 c) ∧
      (∃ D' g' x', LogSt T B w' L d M v D' gs g' all (if c = 0 then all.length else n) x' ∧ D'.dead = D.dead ∧ D'.room = D.room) ∧ KeepR w w' ∧ Below B w w' := by
  cases hd : D.dead with
  | true =>
    refine ⟨12, fun h0 => (by cases h0), (walSync_any T w L d M v (gs.map (·.first)) g.first all.length D D 12 h.st h.first_small h.segs_len (dcall_dead fun W hW => sync_dead d M g.first D W hW h.first_small hd)).mono fun _ _ ⟨h1, h2, h3⟩ => ⟨h1, ⟨D, g, x, ⟨h2, h.live, h.files, h.alive, h.newne, h.low, h.few⟩, hd, rfl⟩, h.st.keep (chg2 h3), h.below (chg2 h3)⟩⟩
  | false =>
    obtain rfl := h.alive hd
    have hfl := h.files
    have ha := h.st.disk.asc
    rw [hfl] at ha
    have hg : lget D.files g.first = some ⟨g.bytes (tlT T), g.sure⟩ := by rw [hfl]; exact files_get ha
    refine ⟨0, fun _ => rfl, (walSync_any T w L d M v (gs.map (·.first)) g.first all.length D (synced D g.first ⟨g.bytes (tlT T), g.sure⟩) 0 h.st h.first_small h.segs_len (fun W hW => sync_ok d M g.first D _ W hW h.first_small hd hg (by have := h.few; omega))).mono fun _ _ ⟨h1, h2, h3⟩ => ⟨h1, ⟨synced D g.first ⟨g.bytes (tlT T), g.sure⟩, { g with sure := (g.bytes (tlT T)).length }, .none, ⟨h2, by simpa using h.live.sync, ?_, fun _ => rfl, trivial, h.low, ?_⟩, hd, rfl⟩, h.st.keep (chg2 h3), h.below (chg2 h3)⟩⟩
    · unfold synced; dsimp only; rw [hfl, files_sync ha]
    · unfold synced; dsimp only; rw [hfl, files_sync ha, filesOf_len]; have := h.few; rw [hfl, filesOf_len] at this; exact this
end
end Go.Proofs.YtofnehgjkdcmnaaGreatDoor

/- Open as the plain law has it: of an empty disk, and of one that crashed. -/
namespace Go.Proofs.YtofnehgjkdcmnaaGreatDoor
open Go.RowKit Hg

/-- what an Open of a disk answers that has the records ts -/
def OplQ (T : Nat → Nat) (B : Nat) (w : World) (d M : Nat) (room : Nat) (ts : List Byts) (e : Ending) (w' : World) : Prop :=
  ∃ L v u D gs g, e = .returned (.tuple #[.pointer (some ⟨L, 0, none⟩), u, i64 0]) ∧ LogSt T B w' L d M v D gs g ts ts.length .none ∧ D.dead = false ∧ D.room = room ∧
    w'.ownsRow w.heap.size 9 1 u ts.length (ts.map encStr) ∧ KeepR w w' ∧ Below B w w'

section
variable {T : Nat → Nat} {B : Nat} {w w' : World} {d M : Nat} {D : LD}
theorem disk_keep (h : DiskAt w d M D) (hg : Chg [d, M] w w') : KeepR w w' := by
  intro base e size n g xs he hr
  refine own_chg' hr hg fun q hq => ?_
  simp only [List.mem_cons, List.not_mem_nil, or_false, not_or]
  refine ⟨?_, ?_⟩
  · rintro rfl; exact rowOf_ne hr h.blk (by rcases he with rfl | rfl <;> decide) hq
  · rintro rfl; exact row_ne_map h.map hr hq
theorem disk_below (hB : B ≤ d ∧ B ≤ M ∧ B ≤ w.heap.size) (hg : Chg [d, M] w w') : Below B w w' :=
  hg.below' (fun k hk => by simp only [List.mem_cons, List.not_mem_nil, or_false] at hk; rcases hk with rfl | rfl; exact hB.1; exact hB.2.1) hB.2.2

theorem openP_live {gs : List Seg} {g : Seg} {next : Nat} {ts : List Byts} {p : Byts} (hE : Env T w) (hD : DiskAt w d M D) (hB : B ≤ d ∧ B ≤ M ∧ B ≤ w.heap.size) (hfew : (opened D).files.length ≤ 64) (hdead : D.dead = false) (hlo : 6 ≤ d ∧ 6 ≤ M)
    (hf : (opened D).files = foundFiles (tlT T) gs g next (.last p)) (hF : Fnd (tlT T) gs g next ts (.last p)) :
    Calls Tryz.prog 5 #[.pointer (some ⟨d, 0, none⟩), strV [108, 111, 103]] w (OplQ T B w d M (opened D).room ts) := by
  have hlive := hF.live
  have hnx : next = ts.length := live_next hlive
  have hlen : (piecesOf gs g p).length = gs.length + 1 := pieces_len gs g p
  have hfl : (opened D).files.length = gs.length + 1 := by rw [hf]; simp [foundFiles]
  have hD64 : D.files.length ≤ 1000 := by
    by_cases h : D.files = []
    · rw [h]; simp
    · have : opened D = D := if_neg h
      rw [this] at hfew; omega
  refine (walOpen_any T w d M D (piecesOf gs g p) (by intro e; rw [e] at hlen; simp at hlen) (by omega) (by rw [hf, ← pieces_found]) (pieces_fine hF) hE hD hlo hD64 hdead).mono fun e w' hq => ?_
  unfold OpenP at hq
  obtain ⟨L, v, u, h1, h2, h3, h4, h5, h6⟩ := hq
  rw [pieces_recs, ← hF.ts_] at h2 h3
  refine ⟨L, v, u, ⟨cleaned (tlT T) (piecesOf gs g p).length (piecesOf gs g p), (opened D).room, false⟩, gs.map (fun x => { x with sure := (x.bytes (tlT T)).length }), { g with sure := (g.bytes (tlT T)).length }, h1, ⟨?_, by have h := hlive; rw [hnx] at h; exact h, ?_, fun _ => rfl, trivial, ⟨Nat.le_trans hB.2.2 h5, hB.1, hB.2.1, fun q hq => Nat.le_trans hB.2.2 (h6 q hq)⟩, ?_⟩, rfl, rfl, h3, disk_keep hD h4, disk_below hB h4⟩
  · have e : (piecesOf gs g p).map (·.1.first) = (gs.map (fun x => { x with sure := (x.bytes (tlT T)).length })).map (·.first) ++ [g.first] := by
      simp [piecesOf, Function.comp_def]
    rw [e] at h2; exact h2
  · exact pieces_done gs g p ts.length
  · dsimp only
    rw [cleaned_len, hlen]; omega
/-- an empty disk -/
theorem open_empty (room : Nat) (hE : Env T w) (hD : DiskAt w d M ⟨[], room, false⟩) (hB : B ≤ d ∧ B ≤ M ∧ B ≤ w.heap.size) (hlo : 6 ≤ d ∧ 6 ≤ M) :
    Calls Tryz.prog 5 #[.pointer (some ⟨d, 0, none⟩), strV [108, 111, 103]] w (OplQ T B w d M room []) := by
  have ho : opened ⟨[], room, false⟩ = ⟨[(0, ⟨[], 0⟩)], room, false⟩ := by simp [opened, made]
  have := openP_live (T := T) (B := B) (gs := []) (g := ⟨0, [], 0⟩) (next := 0) (ts := []) (p := []) hE hD hB (by rw [ho]; simp) rfl hlo (by rw [ho]; simp [foundFiles, sureFile, Seg.bytes, frs])
    ⟨⟨rfl, rfl⟩, by simp, by intro y hy t ht; simp at hy; subst hy; simp at ht, by simp [texts], .inl rfl⟩
  rw [ho] at this
  exact this
/-- a disk that crashed -/
theorem open_crashed {L : Nat} {v : Value} {gs : List Seg} {g : Seg} {all : List Byts} {n : Nat} {x : TornAt} {w1 : World} (keep room : Nat) (h : LogSt T B w1 L d M v D gs g all n x) (hE : Env T w) (hD : DiskAt w d M ⟨crashed keep D.files, room, false⟩) (hB : B ≤ w.heap.size) :
    ∃ ts, ts <+: all ∧ n ≤ ts.length ∧ Calls Tryz.prog 5 #[.pointer (some ⟨d, 0, none⟩), strV [108, 111, 103]] w (OplQ T B w d M room ts) := by
  obtain ⟨g', next', ts, f, h1, h2, h3, h4⟩ := h.live.crash (by cases x with | none => trivial | tail p => trivial | new p => exact h.newne) keep
  obtain ⟨gs2, g2, p, h5, h6⟩ := found_pieces h2
  refine ⟨ts, h3, h4, ?_⟩
  have hne : (crashed keep D.files) ≠ [] := by rw [h.files, h1, h5]; simp [foundFiles]
  have ho : opened ⟨crashed keep D.files, room, false⟩ = ⟨crashed keep D.files, room, false⟩ := if_neg hne
  have := openP_live (T := T) (B := B) hE hD ⟨h.low.2.1, h.low.2.2.1, hB⟩ (by rw [ho]; have := h.few; simpa [crashed] using this) rfl h.st.lo.2 (by rw [ho, h.files, h1, h5]) h6
  rw [ho] at this
  exact this
end
end Go.Proofs.YtofnehgjkdcmnaaGreatDoor
