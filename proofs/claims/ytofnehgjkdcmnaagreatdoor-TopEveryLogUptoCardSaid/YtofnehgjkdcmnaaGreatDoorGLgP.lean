/- Frames: texts with their length ahead and a sum behind; what is read of a beginning of them. -/
import Derived.Maps.Ext
import Derived.Maps.Own
import Derived.Sort.KeysCollected
import Derived.Lib.ItoaNum
import Derived.Lib.Atoi
namespace Hg
abbrev Byts := List UInt8

/-- a length in three bytes -/
def hd3 (n : Nat) : Byts := [UInt8.ofNat (n / 65536), UInt8.ofNat (n / 256), UInt8.ofNat n]
def num3 (a b c : UInt8) : Nat := a.toNat * 65536 + b.toNat * 256 + c.toNat
theorem hd3_length (n : Nat) : (hd3 n).length = 3 := rfl
theorem num3_hd3 (n : Nat) (h : n ≤ 65536) : num3 (UInt8.ofNat (n / 65536)) (UInt8.ofNat (n / 256)) (UInt8.ofNat n) = n := by
  unfold num3
  simp only [UInt8.toNat_ofNat']
  omega

section
variable (tl : Byts → Byts)

def frm (t : Byts) : Byts := hd3 t.length ++ t ++ tl (hd3 t.length ++ t)
/-- the frame with which a text begins, and how many bytes it has -/
def parse1 (s : Byts) : Option (Byts × Nat) :=
  match s with
  | a :: b :: c :: r =>
    let n := num3 a b c
    if 65536 < n then none
    else if r.length < n + 4 then none
    else if tl (a :: b :: c :: r.take n) = (r.drop n).take 4 then some (r.take n, 7 + n) else none
  | _ => none
def parseN : Nat → Byts → List Byts × Nat
  | 0, _ => ([], 0)
  | k + 1, s => match parse1 tl s with
    | none => ([], 0)
    | some (t, n) => (t :: (parseN k (s.drop n)).1, n + (parseN k (s.drop n)).2)
def frs (ts : List Byts) : Byts := ts.flatMap (frm tl)
/-- a beginning of a frame, not the whole -/
def Torn (p : Byts) : Prop := p = [] ∨ ∃ t, t.length ≤ 65536 ∧ p.length < (frm tl t).length ∧ p <+: frm tl t

variable {tl} (ht : ∀ s, (tl s).length = 4)
include ht
theorem frm_length (t : Byts) : (frm tl t).length = t.length + 7 := by
  simp only [frm, List.length_append, ht, hd3_length]; omega

theorem parse1_frm (t r : Byts) (h : t.length ≤ 65536) : parse1 tl (frm tl t ++ r) = some (t, t.length + 7) := by
  have e : frm tl t ++ r = UInt8.ofNat (t.length / 65536) :: UInt8.ofNat (t.length / 256) :: UInt8.ofNat t.length :: (t ++ (tl (hd3 t.length ++ t) ++ r)) := by
    simp [frm, hd3]
  rw [e]
  simp only [parse1, num3_hd3 _ h]
  rw [if_neg (by omega), if_neg (by simp only [List.length_append, ht]; omega)]
  have e1 : (t ++ (tl (hd3 t.length ++ t) ++ r)).take t.length = t := List.take_left
  have e2 : (t ++ (tl (hd3 t.length ++ t) ++ r)).drop t.length = tl (hd3 t.length ++ t) ++ r := List.drop_left
  rw [e1, e2]
  have e3 : (tl (hd3 t.length ++ t) ++ r).take 4 = tl (hd3 t.length ++ t) := by
    rw [← ht (hd3 t.length ++ t)]; exact List.take_left
  rw [e3, if_pos (by rfl)]
  simp [Nat.add_comm]

theorem parse1_torn {p : Byts} (h : Torn tl p) : parse1 tl p = none := by
  rcases h with rfl | ⟨t, hl, hlt, r, hr⟩
  · rfl
  · rw [frm_length ht] at hlt
    match p, hr, hlt with
    | [], _, _ => rfl
    | [_], _, _ => rfl
    | [_, _], _, _ => rfl
    | a :: b :: c :: q, hr, hlt =>
      have e : frm tl t = UInt8.ofNat (t.length / 65536) :: UInt8.ofNat (t.length / 256) :: UInt8.ofNat t.length :: (t ++ tl (hd3 t.length ++ t)) := by
        simp [frm, hd3]
      rw [e] at hr
      simp only [List.cons_append, List.cons.injEq] at hr
      obtain ⟨rfl, rfl, rfl, _⟩ := hr
      simp only [parse1, num3_hd3 _ hl]
      simp only [List.length_cons] at hlt
      rw [if_neg (by omega), if_pos (by omega)]

omit ht in
theorem frs_append (a b : List Byts) : frs tl (a ++ b) = frs tl a ++ frs tl b := List.flatMap_append
omit ht in
theorem frs_length_take (ts : List Byts) (i : Nat) : (frs tl (ts.take i)).length ≤ (frs tl ts).length := by
  have h : frs tl ts = frs tl (ts.take i) ++ frs tl (ts.drop i) := by rw [← frs_append, List.take_append_drop]
  rw [h, List.length_append]; omega

theorem frs_ge (ts : List Byts) : 7 * ts.length ≤ (frs tl ts).length := by
  induction ts with
  | nil => simp [frs]
  | cons t ts ih => simp only [frs, List.flatMap_cons, List.length_append, List.length_cons, frm_length ht] at ih ⊢; omega

theorem parseN_frs (ts : List Byts) (hts : ∀ t ∈ ts, t.length ≤ 65536) {p : Byts} (hp : Torn tl p) : ∀ k, ts.length < k → parseN tl k (frs tl ts ++ p) = (ts, (frs tl ts).length) := by
  induction ts with
  | nil =>
    intro k hk
    cases k with
    | zero => omega
    | succ k => simp [parseN, frs, parse1_torn ht hp]
  | cons t ts ih =>
    intro k hk
    cases k with
    | zero => omega
    | succ k =>
      have h1 : frs tl (t :: ts) ++ p = frm tl t ++ (frs tl ts ++ p) := by simp [frs]
      have h2 := parse1_frm ht t (frs tl ts ++ p) (hts t (by simp))
      have h3 : (frm tl t ++ (frs tl ts ++ p)).drop (t.length + 7) = frs tl ts ++ p := by
        rw [← frm_length ht t]; exact List.drop_left
      have h4 := ih (fun x hx => hts x (List.mem_cons_of_mem _ hx)) k (by simp at hk; omega)
      simp only [parseN, h1, h2, h3, h4]
      simp [frs, frm_length ht]

omit ht in
/-- a beginning of frames: some whole ones, and a torn one -/
theorem take_frs (ts : List Byts) (hts : ∀ t ∈ ts, t.length ≤ 65536) : ∀ k, ∃ j p, j ≤ ts.length ∧ (frs tl ts).take k = frs tl (ts.take j) ++ p ∧ Torn tl p ∧ ∀ i, i ≤ ts.length → (frs tl (ts.take i)).length ≤ k → i ≤ j := by
  induction ts with
  | nil => intro k; exact ⟨0, [], Nat.le_refl _, by simp [frs], .inl rfl, fun i hi _ => hi⟩
  | cons t ts ih =>
    intro k
    rcases Nat.lt_or_ge k (frm tl t).length with hk | hk
    · refine ⟨0, (frm tl t).take k, Nat.zero_le _, ?_, ?_, fun i hi hle => ?_⟩
      · simp only [frs, List.flatMap_cons, List.take_zero, List.flatMap_nil, List.nil_append]
        rw [List.take_append_of_le_length (by omega)]
      · exact .inr ⟨t, hts t (by simp), by rw [List.length_take]; omega, List.take_prefix _ _⟩
      · cases i with
        | zero => exact Nat.le_refl _
        | succ i => simp only [frs, List.take_succ_cons, List.flatMap_cons, List.length_append] at hle; omega
    · obtain ⟨j, p, hj, he, hp, hmax⟩ := ih (fun x hx => hts x (List.mem_cons_of_mem _ hx)) (k - (frm tl t).length)
      refine ⟨j + 1, p, by simp; omega, ?_, hp, fun i hi hle => ?_⟩
      · simp only [frs, List.flatMap_cons, List.take_succ_cons] at he ⊢
        rw [List.take_append, List.take_of_length_le (by omega), he, List.append_assoc]
      · cases i with
        | zero => omega
        | succ i =>
          simp only [frs, List.take_succ_cons, List.flatMap_cons, List.length_append] at hle
          have := hmax i (by simp at hi; omega) (by simp only [frs]; omega)
          omega
end
end Hg

/- A log on a disk, as plain data: what is kept by all that happens, and what is there behind a crash. -/
namespace Hg

/-- a file: its bytes, and how many of them are sure -/
structure LFile where
  s : Byts
  sure : Nat
/-- a segment: its first record's number, its records, how many of its bytes are sure -/
structure Seg where
  first : Nat
  ts : List Byts
  sure : Nat
  deriving Inhabited
section
variable (tl : Byts → Byts)
def Seg.bytes (g : Seg) : Byts := frs tl g.ts
def Seg.file (g : Seg) : Nat × LFile := (g.first, ⟨g.bytes tl, g.sure⟩)
/-- each segment begins where the one ahead of it ended -/
def Chain : Nat → List Seg → Nat → Prop
  | a, [], b => a = b
  | a, g :: gs, b => g.first = a ∧ Chain (a + g.ts.length) gs b
def texts (gs : List Seg) : List Byts := gs.flatMap Seg.ts
theorem texts_append (a b : List Seg) : texts (a ++ b) = texts a ++ texts b := List.flatMap_append

/-- the segments ahead of the last one: whole on the disk, sure, and not empty -/
def Old (gs : List Seg) : Prop := ∀ g ∈ gs, g.sure = (g.bytes tl).length ∧ g.ts ≠ []
def Small (gs : List Seg) : Prop := ∀ g ∈ gs, ∀ t ∈ g.ts, t.length ≤ 65536

theorem Chain.append {a b c : Nat} {gs hs : List Seg} (h : Chain a gs b) (k : Chain b hs c) : Chain a (gs ++ hs) c := by
  induction gs generalizing a with
  | nil => cases h; exact k
  | cons g gs ih => exact ⟨h.1, ih h.2⟩
theorem Chain.split {a c : Nat} {gs hs : List Seg} (h : Chain a (gs ++ hs) c) : ∃ b, Chain a gs b ∧ Chain b hs c := by
  induction gs generalizing a with
  | nil => exact ⟨a, rfl, h⟩
  | cons g gs ih => obtain ⟨b, h1, h2⟩ := ih h.2; exact ⟨b, ⟨h.1, h1⟩, h2⟩
theorem Chain.end_ {a b : Nat} {gs : List Seg} (h : Chain a gs b) : b = a + (texts gs).length := by
  induction gs generalizing a with
  | nil => cases h; simp [texts]
  | cons g gs ih => have := ih h.2; simp only [texts, List.flatMap_cons, List.length_append] at this ⊢; omega

/-- what is torn on a disk that died: a beginning of a frame behind the last segment's bytes, or in a new file -/
inductive TornAt
  | none
  | tail (p : Byts)
  | new (p : Byts)
/-- a disk's files, of a log's segments gs ++ [g] and what is torn -/
def filesOf (gs : List Seg) (g : Seg) (next : Nat) : TornAt → List (Nat × LFile)
  | .none => gs.map (Seg.file tl) ++ [g.file tl]
  | .tail p => gs.map (Seg.file tl) ++ [(g.first, ⟨g.bytes tl ++ p, g.sure⟩)]
  | .new p => gs.map (Seg.file tl) ++ [g.file tl, (next, ⟨p, 0⟩)]

/-- a log that is being written: segments gs ++ [g]; all: its records; n of them are sure -/
structure Live (gs : List Seg) (g : Seg) (next : Nat) (all : List Byts) (n : Nat) (x : TornAt) : Prop where
  chain : Chain 0 (gs ++ [g]) next
  old : Old tl gs
  small : Small (gs ++ [g])
  all_ : all = texts (gs ++ [g])
  sure : g.sure ≤ (g.bytes tl).length
  cnt : ∃ i, i ≤ g.ts.length ∧ (frs tl (g.ts.take i)).length ≤ g.sure ∧ n ≤ (texts gs).length + i
  torn : match x with
    | .none => True
    | .tail p => Torn tl p
    | .new p => Torn tl p ∧ g.sure = (g.bytes tl).length

variable {tl} (ht : ∀ s, (tl s).length = 4)

/-- a record behind the last one's -/
theorem Live.add {gs : List Seg} {g : Seg} {next n : Nat} {all : List Byts} (h : Live tl gs g next all n .none) (t : Byts) (hl : t.length ≤ 65536) : Live tl gs { g with ts := g.ts ++ [t] } (next + 1) (all ++ [t]) n .none := by
  obtain ⟨b, h1, h2⟩ := h.chain.split
  obtain ⟨i, hi, hs, hn⟩ := h.cnt
  refine ⟨h1.append ⟨h2.1, ?_⟩, h.old, fun x hx y hy => ?_, ?_, ?_, ⟨i, by simp; omega, ?_, hn⟩, trivial⟩
  · have := h2.2; simp only [Chain] at this ⊢; simp; omega
  · rcases List.mem_append.1 hx with hx | hx
    · exact h.small x (List.mem_append_left _ hx) y hy
    · simp only [List.mem_singleton] at hx; subst hx
      rcases List.mem_append.1 hy with hy | hy
      · exact h.small g (by simp) y hy
      · simp only [List.mem_singleton] at hy; subst hy; exact hl
  · rw [h.all_, texts_append, texts_append]; simp [texts]
  · have := h.sure
    simp only [Seg.bytes, frs_append, List.length_append] at this ⊢; omega
  · rw [List.take_append_of_le_length hi]; exact hs

/-- a new segment, the last one being sure -/
theorem Live.roll {gs : List Seg} {g : Seg} {next n : Nat} {all : List Byts} (h : Live tl gs g next all n .none) (hne : g.ts ≠ []) (t : Byts) (hl : t.length ≤ 65536) : Live tl (gs ++ [{ g with sure := (g.bytes tl).length }]) ⟨next, [t], 0⟩ (next + 1) (all ++ [t]) n .none := by
  obtain ⟨b, h1, h2⟩ := h.chain.split
  obtain ⟨i, hi, hs, hn⟩ := h.cnt
  have e : texts (gs ++ [{ g with sure := (g.bytes tl).length }]) = texts (gs ++ [g]) := by rw [texts_append, texts_append]; rfl
  refine ⟨(h1.append (hs := [{ g with sure := (g.bytes tl).length }]) ⟨h2.1, h2.2⟩).append ⟨rfl, by simp [Chain]⟩, fun x hx => ?_, fun x hx y hy => ?_, ?_, Nat.zero_le _, ⟨0, Nat.zero_le _, by simp [frs], ?_⟩, trivial⟩
  · rcases List.mem_append.1 hx with hx | hx
    · exact h.old x hx
    · simp only [List.mem_singleton] at hx; subst hx; exact ⟨rfl, hne⟩
  · simp only [List.append_assoc, List.cons_append, List.nil_append, List.mem_append, List.mem_cons, List.not_mem_nil, or_false] at hx
    rcases hx with hx | rfl | rfl
    · exact h.small x (List.mem_append_left _ hx) y hy
    · exact h.small g (by simp) y hy
    · simp only [List.mem_singleton] at hy; subst hy; exact hl
  · have e2 : texts (gs ++ [{ g with sure := (g.bytes tl).length }] ++ [⟨next, [t], 0⟩]) = texts (gs ++ [{ g with sure := (g.bytes tl).length }]) ++ [t] := by rw [texts_append]; simp [texts]
    rw [e2, e, h.all_]
  · rw [e, texts_append]; simp only [List.length_append]
    have : (texts [g]).length = g.ts.length := by simp [texts]
    omega

/-- all is made sure -/
theorem Live.sync {gs : List Seg} {g : Seg} {next n : Nat} {all : List Byts} (h : Live tl gs g next all n .none) : Live tl gs { g with sure := (g.bytes tl).length } next all all.length .none := by
  refine ⟨?_, h.old, fun x hx y hy => ?_, ?_, Nat.le_refl _, ⟨g.ts.length, Nat.le_refl _, by rw [List.take_length]; exact Nat.le_refl _, ?_⟩, trivial⟩
  · obtain ⟨b, h1, h2⟩ := h.chain.split
    exact h1.append ⟨h2.1, h2.2⟩
  · rcases List.mem_append.1 hx with hx | hx
    · exact h.small x (List.mem_append_left _ hx) y hy
    · simp only [List.mem_singleton] at hx; subst hx; exact h.small g (by simp) y hy
  · rw [h.all_, texts_append, texts_append]; rfl
  · rw [h.all_, texts_append]; simp [texts]

/-- the disk dies in the midst of the last segment -/
theorem Live.die {gs : List Seg} {g : Seg} {next n : Nat} {all : List Byts} (h : Live tl gs g next all n .none) {p : Byts} (hp : Torn tl p) : Live tl gs g next all n (.tail p) := ⟨h.chain, h.old, h.small, h.all_, h.sure, h.cnt, hp⟩
/-- .. or with a new one -/
theorem Live.dieNew {gs : List Seg} {g : Seg} {next n : Nat} {all : List Byts} (h : Live tl gs g next all n .none) {p : Byts} (hp : Torn tl p) : Live tl gs { g with sure := (g.bytes tl).length } next all n (.new p) := by
  obtain ⟨i, hi, hs, hn⟩ := h.cnt
  refine ⟨?_, h.old, fun x hx y hy => ?_, ?_, Nat.le_refl _, ⟨i, hi, frs_length_take _ _, hn⟩, ⟨hp, rfl⟩⟩
  · obtain ⟨b, h1, h2⟩ := h.chain.split
    exact h1.append ⟨h2.1, h2.2⟩
  · rcases List.mem_append.1 hx with hx | hx
    · exact h.small x (List.mem_append_left _ hx) y hy
    · simp only [List.mem_singleton] at hx; subst hx; exact h.small g (by simp) y hy
  · rw [h.all_, texts_append, texts_append]; rfl

/-- a file behind a crash that keeps so many bytes more than the sure ones -/
def LFile.crash (keep : Nat) (f : LFile) : LFile := ⟨f.s.take (f.sure + min keep (f.s.length - f.sure)), f.sure + min keep (f.s.length - f.sure)⟩
def crashed (keep : Nat) (l : List (Nat × LFile)) : List (Nat × LFile) := l.map fun x => (x.1, x.2.crash keep)

/-- what a log is found with, as it is opened: behind the last segment's records, or in a new file, a torn frame -/
inductive Found
  | last (p : Byts)
  | fresh (p : Byts)
def sureFile (n : Nat) (s : Byts) : Nat × LFile := (n, ⟨s, s.length⟩)
variable (tl) in
def foundFiles (gs : List Seg) (g : Seg) (next : Nat) : Found → List (Nat × LFile)
  | .last p => gs.map (fun x => sureFile x.first (x.bytes tl)) ++ [sureFile g.first (g.bytes tl ++ p)]
  | .fresh p => gs.map (fun x => sureFile x.first (x.bytes tl)) ++ [sureFile g.first (g.bytes tl), sureFile next p]
variable (tl) in
structure Fnd (gs : List Seg) (g : Seg) (next : Nat) (ts : List Byts) (x : Found) : Prop where
  chain : Chain 0 (gs ++ [g]) next
  ne : ∀ h ∈ gs, h.ts ≠ []
  small : Small (gs ++ [g])
  ts_ : ts = texts (gs ++ [g])
  torn : match x with
    | .last p => Torn tl p
    | .fresh p => Torn tl p ∧ g.ts ≠ []

theorem Torn.take {p : Byts} (h : Torn tl p) (k : Nat) : Torn tl (p.take k) := by
  rcases h with rfl | ⟨t, hl, hlt, hp⟩
  · left; simp
  · right; exact ⟨t, hl, by rw [List.length_take]; omega, (List.take_prefix _ _).trans hp⟩

/-- a beginning of a segment's bytes, and of what is torn behind them -/
theorem take_torn (ts : List Byts) (hts : ∀ t ∈ ts, t.length ≤ 65536) {p : Byts} (hp : Torn tl p) (k : Nat) : ∃ j q, j ≤ ts.length ∧ (frs tl ts ++ p).take k = frs tl (ts.take j) ++ q ∧ Torn tl q ∧ ∀ i, i ≤ ts.length → (frs tl (ts.take i)).length ≤ k → i ≤ j := by
  rcases Nat.lt_or_ge k (frs tl ts).length with hk | hk
  · obtain ⟨j, q, hj, he, hq, hm⟩ := take_frs (tl := tl) ts hts k
    exact ⟨j, q, hj, by rw [List.take_append_of_le_length (by omega)]; exact he, hq, hm⟩
  · refine ⟨ts.length, p.take (k - (frs tl ts).length), Nat.le_refl _, ?_, hp.take _, fun i hi _ => hi⟩
    rw [List.take_length, List.take_append, List.take_of_length_le hk]

theorem crash_sure (keep : Nat) (n : Nat) (s : Byts) : (n, LFile.crash keep ⟨s, s.length⟩) = sureFile n s := by
  simp [LFile.crash, sureFile]
theorem crash_old {gs : List Seg} (h : Old tl gs) (keep : Nat) : (gs.map (Seg.file tl)).map (fun x => (x.1, x.2.crash keep)) = gs.map (fun x => sureFile x.first (x.bytes tl)) := by
  rw [List.map_map]
  refine List.map_congr_left fun g hg => ?_
  have e := (h g hg).1
  simp only [Function.comp_def, Seg.file, e]
  exact crash_sure keep g.first (g.bytes tl)
theorem crash_len (keep : Nat) (n : Nat) (s : Byts) (k : Nat) (hk : k ≤ s.length) : (n, LFile.crash keep ⟨s, k⟩) = sureFile n (s.take (k + min keep (s.length - k))) := by
  have : min (k + min keep (s.length - k)) s.length = k + min keep (s.length - k) := by omega
  simp [LFile.crash, sureFile, this]

/-- what is found behind a crash: all that was sure, and of the others a beginning -/
theorem Live.crash {gs : List Seg} {g : Seg} {next n : Nat} {all : List Byts} {x : TornAt} (h : Live tl gs g next all n x) (hx : match x with | .new _ => g.ts ≠ [] | _ => True) (keep : Nat) :
    ∃ g' next' ts' f, crashed keep (filesOf tl gs g next x) = foundFiles tl gs g' next' f ∧ Fnd tl gs g' next' ts' f ∧ ts' <+: all ∧ n ≤ ts'.length := by
  obtain ⟨b, h1, h2⟩ := h.chain.split
  obtain ⟨i, hi, hs, hn⟩ := h.cnt
  have hg : ∀ t ∈ g.ts, t.length ≤ 65536 := h.small g (by simp)
  have cut : ∀ p, Torn tl p → ∃ g' next' ts' f, gs.map (fun x => sureFile x.first (x.bytes tl)) ++ [(g.first, LFile.crash keep ⟨g.bytes tl ++ p, g.sure⟩)] = foundFiles tl gs g' next' f ∧ Fnd tl gs g' next' ts' f ∧ ts' <+: all ∧ n ≤ ts'.length := by
    intro p hp
    have hsl := h.sure
    obtain ⟨j, q, hj, he, hq, hm⟩ := take_torn g.ts hg hp (g.sure + min keep ((g.bytes tl ++ p).length - g.sure))
    have hij := hm i hi (by omega)
    refine ⟨⟨g.first, g.ts.take j, 0⟩, g.first + j, texts (gs ++ [⟨g.first, g.ts.take j, 0⟩]), .last q, ?_, ⟨h1.append ⟨h2.1, ?_⟩, fun y hy => (h.old y hy).2, fun y hy t ht => ?_, rfl, hq⟩, ?_, ?_⟩
    · rw [crash_len keep g.first _ _ (by rw [List.length_append]; omega)]
      simp only [foundFiles, Seg.bytes] at he ⊢
      rw [he]
    · have := h2.1; simp only [Chain, List.length_take]; omega
    · rcases List.mem_append.1 hy with hy | hy
      · exact h.small y (List.mem_append_left _ hy) t ht
      · simp only [List.mem_singleton] at hy; subst hy; exact hg t (List.mem_of_mem_take ht)
    · rw [h.all_, texts_append, texts_append]
      refine List.prefix_append_right_inj _ |>.2 ?_
      simp only [texts, List.flatMap_cons, List.flatMap_nil, List.append_nil]
      exact List.take_prefix _ _
    · rw [texts_append]; simp only [texts, List.flatMap_cons, List.flatMap_nil, List.append_nil, List.length_append, List.length_take] at hn ⊢; omega
  cases x with
  | none =>
    obtain ⟨g', next', ts', f, he, r⟩ := cut [] (.inl rfl)
    refine ⟨g', next', ts', f, ?_, r⟩
    rw [← he, crashed, filesOf, List.map_append, crash_old h.old]
    simp [Seg.file]
  | tail p =>
    obtain ⟨g', next', ts', f, he, r⟩ := cut p h.torn
    refine ⟨g', next', ts', f, ?_, r⟩
    rw [← he, crashed, filesOf, List.map_append, crash_old h.old]
    simp
  | new p =>
    have ht := h.torn
    refine ⟨g, next, all, .fresh (p.take (0 + min keep (p.length - 0))), ?_, ⟨h.chain, fun y hy => (h.old y hy).2, h.small, h.all_, ⟨ht.1.take _, hx⟩⟩, List.prefix_refl _, ?_⟩
    · rw [crashed, filesOf, List.map_append, crash_old h.old]
      simp only [List.map_cons, List.map_nil, Seg.file, ht.2, foundFiles]
      rw [crash_sure, crash_len keep next p 0 (Nat.zero_le _)]
    · rw [h.all_, texts_append]; simp only [texts, List.flatMap_cons, List.flatMap_nil, List.append_nil, List.length_append] at hn ⊢; omega

/-- the log that an opening makes of it -/
theorem Fnd.live {gs : List Seg} {g : Seg} {next : Nat} {ts : List Byts} {p : Byts} (h : Fnd tl gs g next ts (.last p)) : Live tl (gs.map fun x => { x with sure := (x.bytes tl).length }) { g with sure := (g.bytes tl).length } next ts ts.length .none := by
  have e : ∀ l : List Seg, texts (l.map fun x => { x with sure := (x.bytes tl).length }) = texts l := by
    intro l; induction l with
    | nil => rfl
    | cons y l ih => simp only [texts, List.map_cons, List.flatMap_cons] at ih ⊢; rw [ih]
  have c : ∀ (l : List Seg) (a b : Nat), Chain a l b → Chain a (l.map fun x => { x with sure := (x.bytes tl).length }) b := by
    intro l; induction l with
    | nil => intro a b h; exact h
    | cons y l ih => intro a b h; exact ⟨h.1, ih _ _ h.2⟩
  obtain ⟨b, h1, h2⟩ := h.chain.split
  refine ⟨(c _ _ _ h1).append ⟨h2.1, h2.2⟩, fun y hy => ?_, fun y hy t ht => ?_, ?_, Nat.le_refl _, ⟨g.ts.length, Nat.le_refl _, by rw [List.take_length]; exact Nat.le_refl _, ?_⟩, trivial⟩
  · obtain ⟨z, hz, rfl⟩ := List.mem_map.1 hy; exact ⟨rfl, h.ne z hz⟩
  · rcases List.mem_append.1 hy with hy | hy
    · obtain ⟨z, hz, rfl⟩ := List.mem_map.1 hy; exact h.small z (List.mem_append_left _ hz) t ht
    · simp only [List.mem_singleton] at hy; subst hy; exact h.small g (by simp) t ht
  · rw [h.ts_, texts_append, texts_append, e]; rfl
  · rw [h.ts_, texts_append, e]; simp [texts]
theorem Fnd.liveNew {gs : List Seg} {g : Seg} {next : Nat} {ts : List Byts} {p : Byts} (h : Fnd tl gs g next ts (.fresh p)) : Live tl ((gs ++ [g]).map fun x => { x with sure := (x.bytes tl).length }) ⟨next, [], 0⟩ next ts ts.length .none := by
  have h' : Fnd tl (gs ++ [g]) ⟨next, [], 0⟩ next ts (.last []) := by
    refine ⟨h.chain.append ⟨rfl, rfl⟩, fun y hy => ?_, fun y hy t ht => ?_, ?_, .inl rfl⟩
    · rcases List.mem_append.1 hy with hy | hy
      · exact h.ne y hy
      · simp only [List.mem_singleton] at hy; subst hy; exact h.torn.2
    · rcases List.mem_append.1 hy with hy | hy
      · exact h.small y hy t ht
      · simp only [List.mem_singleton] at hy; subst hy; simp at ht
    · rw [h.ts_, texts_append (gs ++ [g])]; simp [texts]
  have := h'.live
  simpa [Seg.bytes, frs] using this
end
end Hg

/- The names of a log's segments: eight digits behind "log."; they are told apart, and stand in the numbers' order. -/
namespace Hg
open Go.Lib

/-- k digits of a number -/
def digs : Nat → Nat → List UInt8
  | 0, _ => []
  | k + 1, n => dg n k :: digs k n
theorem digs_length (k n : Nat) : (digs k n).length = k := by induction k with
  | zero => rfl
  | succ k ih => simp [digs, ih]
theorem dg_toNat (n j : Nat) : (dg n j).toNat = 48 + n / 10 ^ j % 10 := by
  unfold dg
  rw [UInt8.toNat_ofNat']
  have := Nat.mod_lt (n / 10 ^ j) (by decide : 0 < 10)
  omega
theorem digs_digit (k n : Nat) : ∀ b ∈ digs k n, 48 ≤ b.toNat ∧ b.toNat ≤ 57 := by
  induction k with
  | zero => simp [digs]
  | succ k ih =>
    intro b hb
    rcases List.mem_cons.1 hb with rfl | hb
    · rw [dg_toNat]; have := Nat.mod_lt (n / 10 ^ k) (by decide : 0 < 10); omega
    · exact ih b hb

theorem decFrom_digs (k : Nat) : ∀ n acc, decFrom acc (digs k n) = some (acc * 10 ^ k + n % 10 ^ k) := by
  induction k with
  | zero => intro n acc; simp [digs, decFrom, Nat.mod_one]
  | succ k ih =>
    intro n acc
    have h := Nat.mod_lt (n / 10 ^ k) (by decide : 0 < 10)
    have hd : digitVal (dg n k) = some (n / 10 ^ k % 10) := by
      unfold digitVal
      rw [dg_toNat, if_pos (by omega)]
      congr 1; omega
    simp only [digs, decFrom, hd, ih]
    congr 1
    have e : n % 10 ^ (k + 1) = n / 10 ^ k % 10 * 10 ^ k + n % 10 ^ k := by
      rw [Nat.pow_succ, Nat.mod_mul, Nat.mul_comm (10 ^ k) (n / 10 ^ k % 10)]; omega
    rw [e, Nat.pow_succ, Nat.add_mul, Nat.mul_assoc, Nat.mul_comm 10 (10 ^ k)]
    omega
theorem digs_inj {k n m : Nat} (hn : n < 10 ^ k) (hm : m < 10 ^ k) (h : digs k n = digs k m) : n = m := by
  have h1 := decFrom_digs k n 0
  rw [h, decFrom_digs k m 0] at h1
  simp only [Nat.zero_mul, Nat.zero_add, Option.some.injEq, Nat.mod_eq_of_lt hn, Nat.mod_eq_of_lt hm] at h1
  exact h1.symm
theorem digs_mod (k n : Nat) : ∀ j, k ≤ j → digs k (n % 10 ^ j) = digs k n := by
  induction k with
  | zero => intros; rfl
  | succ k ih =>
    intro j hj
    simp only [digs, ih j (by omega)]
    congr 1
    unfold dg
    congr 2
    obtain ⟨d, rfl⟩ : ∃ d, j = (k + 1) + d := ⟨j - (k + 1), by omega⟩
    rw [Nat.pow_add, Nat.mod_mul, Nat.pow_succ]
    rw [show n % (10 ^ k * 10) + 10 ^ k * 10 * (n / (10 ^ k * 10) % 10 ^ d) = n % (10 ^ k * 10) + 10 ^ k * (10 * (n / (10 ^ k * 10) % 10 ^ d)) by rw [Nat.mul_assoc]]
    rw [Nat.add_mul_div_left _ _ (Nat.pow_pos (by decide)), Nat.add_mul_mod_self_left, Nat.mod_mul_right_div_self, Nat.mod_mod]
theorem digs_lt (k : Nat) : ∀ n m, n < m → m < 10 ^ k → digs k n < digs k m := by
  induction k with
  | zero => intro n m h1 h2; omega
  | succ k ih =>
    intro n m h1 h2
    have hp : 0 < 10 ^ k := Nat.pow_pos (by decide)
    have hm : m / 10 ^ k < 10 := Nat.div_lt_of_lt_mul (by rw [Nat.pow_succ] at h2; exact h2)
    have hle : n / 10 ^ k ≤ m / 10 ^ k := Nat.div_le_div_right (by omega)
    simp only [digs]
    rcases Nat.lt_or_ge (n / 10 ^ k) (m / 10 ^ k) with hlt | hge
    · refine List.Lex.rel ?_
      rw [UInt8.lt_iff_toNat_lt, dg_toNat, dg_toNat, Nat.mod_eq_of_lt (by omega), Nat.mod_eq_of_lt hm]
      omega
    · have he : n / 10 ^ k = m / 10 ^ k := by omega
      have e : dg n k = dg m k := by unfold dg; rw [he]
      rw [e]
      refine List.Lex.cons ?_
      have h3 := Nat.div_add_mod n (10 ^ k)
      have h4 := Nat.div_add_mod m (10 ^ k)
      rw [he] at h3
      have h5 := ih (n % 10 ^ k) (m % 10 ^ k) (by omega) (Nat.mod_lt _ hp)
      rwa [digs_mod k n k (Nat.le_refl _), digs_mod k m k (Nat.le_refl _)] at h5

theorem nDigits_le : ∀ (k n : Nat), n < 10 ^ (k + 1) → nDigits n ≤ k + 1 := by
  intro k
  induction k with
  | zero => intro n h; rw [nDigits_small (by simpa using h)]; omega
  | succ k ih =>
    intro n h
    by_cases h1 : n < 10
    · rw [nDigits_small h1]; omega
    · rw [nDigits_big h1]
      have := ih (n / 10) (Nat.div_lt_of_lt_mul (by rw [Nat.pow_succ] at h; omega))
      omega
theorem decDigits_digs (n : Nat) : decDigits n = digs (nDigits n) n := by
  rw [decDigits_eq]
  generalize nDigits n = k
  induction k with
  | zero => rfl
  | succ k ih =>
    rw [List.range_succ_eq_map, List.map_cons, List.map_map, digs, ← ih]
    congr 1
    refine List.map_congr_left fun t ht => ?_
    simp only [Function.comp_def]
    congr 1
    omega
theorem digs_pad (k n : Nat) (d : Nat) (h : n < 10 ^ k) : List.replicate d 48 ++ digs k n = digs (d + k) n := by
  induction d with
  | zero => simp
  | succ d ih =>
    rw [List.replicate_succ, List.cons_append, ih, Nat.add_right_comm d 1 k, digs]
    congr 1
    unfold dg
    rw [Nat.div_eq_of_lt (Nat.lt_of_lt_of_le h (Nat.pow_le_pow_right (by decide) (by omega)))]
    rfl

/-- a segment's name -/
def logName (n : Nat) : List UInt8 := [108, 111, 103, 46] ++ digs 8 n
theorem logName_length (n : Nat) : (logName n).length = 12 := by simp [logName, digs_length]
theorem logName_inj {n m : Nat} (hn : n < 100000000) (hm : m < 100000000) (h : logName n = logName m) : n = m :=
  digs_inj (k := 8) hn hm (List.append_cancel_left h)
theorem logName_lt {n m : Nat} (h : n < m) (hm : m < 100000000) : logName n < logName m := by
  have h1 := digs_lt 8 n m h hm
  unfold logName
  exact List.Lex.cons (List.Lex.cons (List.Lex.cons (List.Lex.cons h1)))
/-- as it is made: padded with zeros -/
theorem logName_made (n : Nat) (h : n < 100000000) : [108, 111, 103, 46] ++ List.replicate (8 - (itoa (n : Int)).length) 48 ++ itoa (n : Int) = logName n := by
  have e : itoa (n : Int) = digs (nDigits n) n := by
    unfold itoa
    rw [if_neg (by omega)]
    exact decDigits_digs n
  have hk := nDigits_le 7 n h
  rw [e, digs_length, List.append_assoc, digs_pad _ _ _ (lt_pow_nDigits n), Nat.sub_add_cancel hk]
  rfl
theorem logName_atoi (n : Nat) (h : n < 100000000) : atoi (digs 8 n) = some (n : Int) := by
  have h1 := decFrom_digs 8 n 0
  rw [Nat.zero_mul, Nat.zero_add, Nat.mod_eq_of_lt (show n < 10 ^ 8 from h)] at h1
  have hd := digs_digit 8 n (dg n 7) (by simp [digs])
  have n1 : (dg n 7 == 45) = false := by
    apply Bool.eq_false_iff.2; intro h; have := eq_of_beq h; rw [this] at hd; exact absurd hd.1 (by decide)
  have n2 : (dg n 7 == 43) = false := by
    apply Bool.eq_false_iff.2; intro h; have := eq_of_beq h; rw [this] at hd; exact absurd hd.1 (by decide)
  show atoi (dg n 7 :: digs 7 n) = _
  simp only [atoi, n1, n2, Bool.false_eq_true, if_false]
  unfold decNat
  simp only [List.isEmpty_cons, Bool.false_eq_true, if_false]
  show (decFrom 0 (digs 8 n)).map _ = _
  rw [h1]; rfl
end Hg

/- A disk's files as the datum that its map reads as. -/
namespace Hg
open Go Go.Maps Go.WideShapes

def fileD (f : LFile) : DataW Unit := .agg [.lit (.string f.s), .lit (.int .i64 f.sure)]
def keyL (n : Nat) : Lit := .string (logName n)
def mapD (l : List (Nat × LFile)) : DataW Unit := .map (l.map fun x => (keyL x.1, fileD x.2))
structure Asc (l : List (Nat × LFile)) : Prop where
  lt : l.Pairwise fun x y => x.1 < y.1
  small : ∀ x ∈ l, x.1 < 100000000

def lget (l : List (Nat × LFile)) (n : Nat) : Option LFile := (l.find? fun x => x.1 == n).map (·.2)
def lset (l : List (Nat × LFile)) (n : Nat) (f : LFile) : List (Nat × LFile) := l.map fun x => if x.1 = n then (n, f) else x

theorem before_of_lt {a b : List UInt8} (h : a < b) : bytesBefore a b = true := by
  induction h with
  | nil => rfl
  | rel h => simp [bytesBefore, h]
  | cons _ ih => simp [bytesBefore, ih]
theorem keyL_before {n m : Nat} (h : n < m) (hm : m < 100000000) : (keyL n).before (keyL m) = true := before_of_lt (logName_lt h hm)
theorem keyL_inj {n m : Nat} (hn : n < 100000000) (hm : m < 100000000) (h : keyL n = keyL m) : n = m := by
  unfold keyL at h; injection h with h; exact logName_inj hn hm h
theorem keyL_same {n m : Nat} (hn : n < 100000000) (hm : m < 100000000) : (keyL n).sameKey (keyL m) = (n == m) := by
  show (logName n == logName m) = (n == m)
  rw [Bool.eq_iff_iff, beq_iff_eq, beq_iff_eq]
  exact ⟨logName_inj hn hm, fun h => by rw [h]⟩
theorem keyL_lit (n : Nat) : WideAt.IsKeyLit (keyL n) := trivial

theorem Asc.canon {l : List (Nat × LFile)} (h : Asc l) : Canon (mapD l) := by
  refine ⟨_, rfl, ?_, fun p hp => ?_⟩
  · rw [List.pairwise_map]
    have hs := h.small
    have hl := h.lt
    exact (List.Pairwise.and_mem.1 hl).imp fun hx => keyL_before hx.2.2 (hs _ hx.2.1)
  · obtain ⟨x, _, rfl⟩ := List.mem_map.1 hp
    exact keyL_lit _
theorem Asc.cons {x : Nat × LFile} {l : List (Nat × LFile)} (h : Asc (x :: l)) : Asc l := ⟨(List.pairwise_cons.1 h.lt).2, fun y hy => h.small y (List.mem_cons_of_mem _ hy)⟩

theorem at_get {l : List (Nat × LFile)} (h : Asc l) {n : Nat} (hn : n < 100000000) (zd : DataW Unit) : (mapD l).atKey (keyL n) zd = match lget l n with | some f => fileD f | none => zd := by
  unfold mapD lget DataW.atKey
  simp only
  induction l with
  | nil => rfl
  | cons x l ih =>
    simp only [List.map_cons, List.find?_cons, keyL_same (h.small x (by simp)) hn]
    cases e : x.1 == n with
    | true => rfl
    | false => exact ih h.cons
theorem has_get {l : List (Nat × LFile)} (h : Asc l) {n : Nat} (hn : n < 100000000) : has (mapD l) (keyL n) = (lget l n).isSome := by
  unfold mapD lget
  rw [has_eq]
  induction l with
  | nil => rfl
  | cons x l ih =>
    simp only [List.map_cons, List.any_cons, List.find?_cons, keyL_same (h.small x (by simp)) hn]
    cases e : x.1 == n with
    | true => rfl
    | false => simpa using ih h.cons

theorem lset_fst (l : List (Nat × LFile)) (n : Nat) (f : LFile) : (lset l n f).map (·.1) = l.map (·.1) := by
  unfold lset
  rw [List.map_map]
  refine List.map_congr_left fun x _ => ?_
  simp only [Function.comp_def]
  split
  · rename_i h; exact h.symm
  · rfl
theorem Asc.of_fst {l l' : List (Nat × LFile)} (h : Asc l) (e : l'.map (·.1) = l.map (·.1)) : Asc l' := by
  refine ⟨?_, fun x hx => ?_⟩
  · have := h.lt
    rw [← List.pairwise_map (f := fun x : Nat × LFile => x.1) (R := fun a b => a < b)] at this ⊢
    rw [e]; exact this
  · have : x.1 ∈ l.map (·.1) := by rw [← e]; exact List.mem_map_of_mem hx
    obtain ⟨y, hy, e2⟩ := List.mem_map.1 this
    rw [← e2]; exact h.small y hy
theorem Asc.set {l : List (Nat × LFile)} (h : Asc l) (n : Nat) (f : LFile) : Asc (lset l n f) := h.of_fst (lset_fst l n f)
theorem Asc.new_ {l : List (Nat × LFile)} (h : Asc l) {n : Nat} (hl : ∀ x ∈ l, x.1 < n) (hn : n < 100000000) (f : LFile) : Asc (l ++ [(n, f)]) := by
  refine ⟨List.pairwise_append.2 ⟨h.lt, by simp, fun x hx y hy => ?_⟩, fun x hx => ?_⟩
  · simp only [List.mem_singleton] at hy; subst hy; exact hl x hx
  · rcases List.mem_append.1 hx with hx | hx
    · exact h.small x hx
    · simp only [List.mem_singleton] at hx; subst hx; exact hn

theorem get_set (l : List (Nat × LFile)) (n m : Nat) (f : LFile) : lget (lset l n f) m = if m = n then (lget l n).map fun _ => f else lget l m := by
  unfold lget lset
  induction l with
  | nil => simp
  | cons x l ih =>
    simp only [List.map_cons, List.find?_cons]
    by_cases e1 : x.1 = n
    · subst e1
      by_cases e2 : m = x.1
      · subst e2; simp
      · have e3 : (x.1 == m) = false := by simp; exact fun e => e2 e.symm
        simp only [if_true, e3, e2, if_false] at ih ⊢
        exact ih
    · simp only [if_neg e1]
      by_cases e2 : x.1 = m
      · subst e2; simp [e1]
      · have e3 : (x.1 == m) = false := by simpa using e2
        have e4 : (x.1 == n) = false := by simpa using e1
        simp only [e3, e4]; exact ih
theorem get_new {l : List (Nat × LFile)} {n : Nat} (hl : ∀ x ∈ l, x.1 < n) (f : LFile) (m : Nat) : lget (l ++ [(n, f)]) m = if m = n then some f else lget l m := by
  unfold lget
  rw [List.find?_append]
  by_cases e : m = n
  · subst e
    have : l.find? (fun x => x.1 == m) = none := by
      rw [List.find?_eq_none]; intro x hx; have := hl x hx; simp; omega
    simp [this]
  · have e2 : ([(n, f)] : List (Nat × LFile)).find? (fun x => x.1 == m) = none := by simp; exact fun h => e h.symm
    rw [e2, if_neg e]; simp
theorem get_none {l : List (Nat × LFile)} {n : Nat} (hl : ∀ x ∈ l, x.1 < n) : lget l n = none := by
  unfold lget
  have : l.find? (fun x => x.1 == n) = none := by
    rw [List.find?_eq_none]; intro x hx; have := hl x hx; simp; omega
  rw [this]; rfl

abbrev encE (x : Nat × LFile) : Lit × DataW Unit := (keyL x.1, fileD x.2)
theorem keyL_not_before {n m : Nat} (h : n < m) (hm : m < 100000000) : (keyL m).before (keyL n) = false := by
  cases e : (keyL m).before (keyL n) with
  | false => rfl
  | true =>
    have := before_trans (keyL_before h hm) e
    rw [before_irrefl] at this
    cases this
theorem filter_keep {l : List (Nat × LFile)} (h : Asc l) {n : Nat} (hn : n < 100000000) (hne : ∀ x ∈ l, x.1 ≠ n) : (l.map encE).filter (fun p => !p.1.sameKey (keyL n)) = l.map encE := by
  rw [List.filter_eq_self]
  intro p hp
  obtain ⟨x, hx, rfl⟩ := List.mem_map.1 hp
  have : (keyL x.1).sameKey (keyL n) = false := by
    rw [keyL_same (h.small x hx) hn]; simpa using hne x hx
  simp [this]
theorem ins_at {n : Nat} (hn : n < 100000000) (f : LFile) : ∀ l : List (Nat × LFile), Asc l → (lget l n).isSome = true → DataW.insert (keyL n, fileD f) ((l.map encE).filter (fun p => !p.1.sameKey (keyL n))) = (lset l n f).map encE
  | [], _, h0 => by simp [lget] at h0
  | x :: l, h, h0 => by
    have hl := List.pairwise_cons.1 h.lt
    have hx := h.small x (by simp)
    by_cases e : x.1 = n
    · subst e
      have e1 : (keyL x.1).sameKey (keyL x.1) = true := by rw [keyL_same hx hx]; simp
      have e2 : lset (x :: l) x.1 f = (x.1, f) :: l := by
        unfold lset
        rw [List.map_cons, if_pos rfl]
        congr 1
        conv => rhs; rw [← List.map_id l]
        refine List.map_congr_left fun y hy => ?_
        rw [if_neg (by have := hl.1 y hy; omega)]; rfl
      rw [List.map_cons, List.filter_cons, if_neg (by simp [e1]), filter_keep h.cons hx (fun y hy => by have := hl.1 y hy; omega), e2, List.map_cons]
      cases l with
      | nil => rfl
      | cons y l =>
        simp only [List.map_cons, DataW.insert]
        rw [if_pos (keyL_before (hl.1 y (by simp)) (h.small y (by simp)))]
    · have h1 : (lget l n).isSome = true := by
        unfold lget at h0 ⊢
        rw [List.find?_cons] at h0
        have : (x.1 == n) = false := by simpa using e
        rw [this] at h0; exact h0
      have hlt : x.1 < n := by
        unfold lget at h1
        rw [Option.isSome_map, List.find?_isSome] at h1
        obtain ⟨y, hy, hyn⟩ := h1
        have := hl.1 y hy
        simp at hyn; omega
      have e1 : (keyL x.1).sameKey (keyL n) = false := by rw [keyL_same hx hn]; simpa using e
      have e2 : lset (x :: l) n f = x :: lset l n f := by unfold lset; rw [List.map_cons, if_neg e]
      rw [List.map_cons, List.filter_cons, if_pos (by simp [e1]), e2, List.map_cons]
      simp only [DataW.insert]
      rw [if_neg (by rw [keyL_not_before hlt hn]; simp), ins_at hn f l h.cons h1]
theorem ins_new {n : Nat} (hn : n < 100000000) (f : LFile) : ∀ l : List (Nat × LFile), Asc l → (∀ x ∈ l, x.1 < n) → DataW.insert (keyL n, fileD f) (l.map encE) = (l ++ [(n, f)]).map encE
  | [], _, _ => rfl
  | x :: l, h, h0 => by
    simp only [List.map_cons, List.cons_append, DataW.insert]
    rw [if_neg (by rw [keyL_not_before (h0 x (by simp)) hn]; simp), ins_new hn f l h.cons (fun y hy => h0 y (List.mem_cons_of_mem _ hy))]
/-- a store into a file that is there -/
theorem put_set {l : List (Nat × LFile)} (h : Asc l) {n : Nat} (hn : n < 100000000) {f0 : LFile} (h0 : lget l n = some f0) (f : LFile) : (mapD l).put (keyL n) (fileD f) = mapD (lset l n f) :=
  congrArg DataW.map (ins_at hn f l h (by rw [h0]; rfl))
/-- a new file behind the others -/
theorem put_new {l : List (Nat × LFile)} (h : Asc l) {n : Nat} (hn : n < 100000000) (hl : ∀ x ∈ l, x.1 < n) (f : LFile) : (mapD l).put (keyL n) (fileD f) = mapD (l ++ [(n, f)]) := by
  refine congrArg DataW.map ?_
  have := filter_keep h hn (fun x hx => Nat.ne_of_lt (hl x hx))
  show DataW.insert (keyL n, fileD f) ((l.map encE).filter (fun p => !p.1.sameKey (keyL n))) = _
  rw [this]
  exact ins_new hn f l h hl
/-- the names, as they are told -/
theorem names_of (l : List (Nat × LFile)) : strKeys (mapD l) = l.map fun x => logName x.1 := by
  simp [strKeys, mapD, strOf, keyL]
theorem names_sorted {l : List (Nat × LFile)} (h : Asc l) : (l.map fun x => logName x.1).mergeSort leB = l.map fun x => logName x.1 := by
  refine List.mergeSort_of_pairwise ?_
  rw [List.pairwise_map]
  exact (List.Pairwise.and_mem.1 h.lt).imp fun hx => by
    have := logName_lt hx.2.2 (h.small _ hx.2.1)
    simpa using List.le_of_lt this
end Hg
