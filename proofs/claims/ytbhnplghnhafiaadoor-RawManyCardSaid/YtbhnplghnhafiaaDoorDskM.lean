import Derived.Test.YtbhnplghnhafiaaDoorVcPlus
/-! Files: what a file system is, in plain words. -/
set_option linter.unusedVariables false
namespace Go.Vc
open Go

abbrev Nm := List UInt8
abbrev Dir := List (Nm × Nat)
theorem nm_lt_irrefl (a : Nm) : ¬ a < a := List.lt_irrefl a
theorem nm_lt_trans {a b c : Nm} (h : a < b) (k : b < c) : a < c := List.lt_trans h k
theorem nm_tri {a b : Nm} (h1 : ¬ a < b) (h2 : a ≠ b) : b < a := by
  have h3 : b ≤ a := List.not_lt.1 h1
  exact List.not_le.1 fun h4 => h2 (List.le_antisymm h4 h3)
def looks : Dir → Nm → Option Nat
  | [], _ => none
  | (k', i) :: d, k => if k' = k then some i else looks d k
def ins : Dir → Nm → Nat → Dir
  | [], k, i => [(k, i)]
  | (k', i') :: d, k, i => if k < k' then (k, i) :: (k', i') :: d else if k' = k then (k, i) :: d else (k', i') :: ins d k i
def del : Dir → Nm → Dir
  | [], _ => []
  | (k', i') :: d, k => if k' = k then del d k else (k', i') :: del d k
def Rising (d : Dir) : Prop := (d.map (·.1)).Pairwise (fun x y => x < y)
theorem looks_mem {d : Dir} {k : Nm} {i : Nat} (h : looks d k = some i) : (k, i) ∈ d := by
  induction d with
  | nil => cases h
  | cons p d ih =>
    obtain ⟨k', i'⟩ := p
    simp only [looks] at h
    split at h
    · injection h with h; rename_i e; subst e; subst h; simp
    · simp [ih h]
theorem looks_isSome {d : Dir} {k : Nm} : (looks d k).isSome = true ↔ k ∈ d.map (·.1) := by
  induction d with
  | nil => simp [looks]
  | cons p d ih =>
    obtain ⟨k', i'⟩ := p
    simp only [looks]
    split
    · rename_i e; subst e; simp
    · rename_i e; rw [ih, List.map_cons, List.mem_cons]; exact ⟨.inr, fun h => h.resolve_left (fun e' => e e'.symm)⟩
theorem Rising.nodup {d : Dir} (h : Rising d) : (d.map (·.1)).Nodup := by
  unfold List.Nodup
  exact h.imp (fun {a b} hlt e => by subst e; exact nm_lt_irrefl _ hlt)
theorem Rising.tail {p : Nm × Nat} {d : Dir} (h : Rising (p :: d)) : Rising d := (List.pairwise_cons.1 h).2
theorem Rising.head {p : Nm × Nat} {d : Dir} (h : Rising (p :: d)) : ∀ q ∈ d, p.1 < q.1 := fun q hq => (List.pairwise_cons.1 h).1 _ (List.mem_map.2 ⟨q, hq, rfl⟩)
theorem Rising.cons {p : Nm × Nat} {d : Dir} (h : Rising d) (hp : ∀ q ∈ d, p.1 < q.1) : Rising (p :: d) := List.pairwise_cons.2 ⟨fun k hk => by obtain ⟨q, hq, rfl⟩ := List.mem_map.1 hk; exact hp q hq, h⟩
theorem looks_of_mem {d : Dir} (hr : Rising d) {k : Nm} {i : Nat} (h : (k, i) ∈ d) : looks d k = some i := by
  induction d with
  | nil => cases h
  | cons p d ih =>
    obtain ⟨k', i'⟩ := p
    simp only [looks]
    rcases List.mem_cons.1 h with h | h
    · injection h with h1 h2; rw [if_pos h1.symm, h2]
    · rw [if_neg (fun e => ?_)]
      · exact ih hr.tail h
      · have := hr.head _ h; simp only at this; rw [e] at this; exact nm_lt_irrefl _ this
theorem ins_mem {d : Dir} {k : Nm} {i : Nat} {q : Nm × Nat} (h : q ∈ ins d k i) : q = (k, i) ∨ q ∈ d := by
  induction d with
  | nil => simpa [ins] using h
  | cons p d ih =>
    obtain ⟨k', i'⟩ := p
    simp only [ins] at h
    split at h
    · rcases List.mem_cons.1 h with h | h
      · exact .inl h
      · exact .inr h
    · split at h
      · rcases List.mem_cons.1 h with h | h
        · exact .inl h
        · exact .inr (by simp [h])
      · rcases List.mem_cons.1 h with h | h
        · exact .inr (by simp [h])
        · exact (ih h).imp id (fun h => by simp [h])
theorem looks_ins {d : Dir} (hr : Rising d) (k : Nm) (i : Nat) (k' : Nm) : looks (ins d k i) k' = if k' = k then some i else looks d k' := by
  induction d with
  | nil => simp only [ins, looks]; by_cases h : k = k' <;> simp [h, eq_comm]
  | cons p d ih =>
    obtain ⟨k0, i0⟩ := p
    simp only [ins]
    split
    · simp only [looks]
      by_cases h : k = k'
      · subst h; simp
      · rw [if_neg h]; rw [if_neg (show ¬ k' = k from fun e => h e.symm)]
    · split
      · rename_i e
        subst e
        simp only [looks]
        by_cases h : k0 = k'
        · subst h; simp
        · rw [if_neg h, if_neg (fun e => h e.symm), if_neg h]
      · rename_i h1 h2
        simp only [looks]
        by_cases h : k0 = k'
        · subst h; rw [if_pos rfl, if_neg h2, if_pos rfl]
        · rw [if_neg h, if_neg h]; exact ih hr.tail
theorem ins_rising {d : Dir} (hr : Rising d) (k : Nm) (i : Nat) : Rising (ins d k i) := by
  induction d with
  | nil => simp [ins, Rising]
  | cons p d ih =>
    obtain ⟨k0, i0⟩ := p
    simp only [ins]
    split
    · rename_i h
      exact hr.cons fun q hq => by
        rcases List.mem_cons.1 hq with rfl | hq
        · exact h
        · exact nm_lt_trans h (hr.head q hq)
    · split
      · rename_i e
        subst e
        exact hr.tail.cons (fun q hq => hr.head q hq)
      · rename_i h1 h2
        refine (ih hr.tail).cons fun q hq => ?_
        rcases ins_mem hq with rfl | hq
        · exact nm_tri h1 (fun e => h2 e.symm)
        · exact hr.head q hq
theorem del_mem {d : Dir} {k : Nm} {q : Nm × Nat} (h : q ∈ del d k) : q ∈ d := by
  induction d with
  | nil => cases h
  | cons p d ih =>
    obtain ⟨k', i'⟩ := p
    simp only [del] at h
    split at h
    · simp [ih h]
    · rcases List.mem_cons.1 h with h | h
      · simp [h]
      · simp [ih h]
theorem looks_del (d : Dir) (k k' : Nm) : looks (del d k) k' = if k' = k then none else looks d k' := by
  induction d with
  | nil => simp [del, looks]
  | cons p d ih =>
    obtain ⟨k0, i0⟩ := p
    simp only [del]
    split
    · rename_i e
      subst e
      rw [ih]
      simp only [looks]
      by_cases h : k' = k0
      · rw [if_pos h, if_pos h]
      · rw [if_neg h, if_neg h, if_neg (fun e => h e.symm)]
    · rename_i e
      simp only [looks]
      by_cases h : k0 = k'
      · subst h; rw [if_pos rfl, if_neg e, if_pos rfl]
      · rw [if_neg h, if_neg h]; exact ih
theorem del_rising {d : Dir} (hr : Rising d) (k : Nm) : Rising (del d k) := by
  induction d with
  | nil => simp [del, Rising]
  | cons p d ih =>
    obtain ⟨k0, i0⟩ := p
    simp only [del]
    split
    · exact ih hr.tail
    · exact (ih hr.tail).cons fun q hq => hr.head q (del_mem hq)
theorem ins_length (d : Dir) (k : Nm) (i : Nat) : (ins d k i).length ≤ d.length + 1 := by
  induction d with
  | nil => simp [ins]
  | cons p d ih =>
    obtain ⟨k0, i0⟩ := p
    simp only [ins]
    split
    · simp
    · split
      · simp
      · simp; omega
theorem ins_length_in {d : Dir} (hr : Rising d) {k : Nm} {i j : Nat} (h : looks d k = some j) : (ins d k i).length = d.length := by
  induction d with
  | nil => cases h
  | cons p d ih =>
    obtain ⟨k0, i0⟩ := p
    simp only [ins]
    split
    · rename_i hlt
      have := looks_mem h
      rcases List.mem_cons.1 this with h | h
      · injection h with h1 h2; rw [h1] at hlt; exact absurd hlt (nm_lt_irrefl _)
      · have := nm_lt_trans hlt (hr.head _ h)
        exact absurd this (nm_lt_irrefl _)
    · split
      · simp
      · rename_i h1 h2
        simp only [looks] at h
        rw [if_neg h2] at h
        simp [ih hr.tail h]
theorem del_length (d : Dir) (k : Nm) : (del d k).length ≤ d.length := by
  induction d with
  | nil => simp [del]
  | cons p d ih =>
    obtain ⟨k0, i0⟩ := p
    simp only [del]
    split
    · simp; omega
    · simp; omega
theorem del_length_in {d : Dir} {k : Nm} {j : Nat} (h : looks d k = some j) : (del d k).length + 1 ≤ d.length := by
  induction d with
  | nil => cases h
  | cons p d ih =>
    obtain ⟨k0, i0⟩ := p
    simp only [del]
    split
    · have := del_length d k; simp; omega
    · rename_i h2
      simp only [looks] at h
      rw [if_neg h2] at h
      have := ih h
      simp; omega

structure FileM where
  b : List UInt8
  synced : Nat
structure ChM where
  kind : Nat
  name : Nm
  to : Nm
  id : Option Nat
structure FsM where
  room : Int
  calls : Int
  fail : Int
  files : List FileM
  dir : Dir
  lasts : Dir
  waits : List ChM
def doM (d : Dir) (c : ChM) : Dir :=
  if c.kind = 0 then (match c.id with | some i => ins d c.name i | none => d)
  else if c.kind = 1 then (match looks d c.name with | some i => ins (del d c.name) c.to i | none => del d c.name)
  else del d c.name
/-- A change that may be done. -/
def Fit1 (d : Dir) (c : ChM) : Prop := (c.kind = 0 → c.id ≠ none) ∧ (c.kind = 1 → looks d c.name ≠ none)
structure DirOk (n : Nat) (d : Dir) : Prop where
  up : Rising d
  few : d.length ≤ 150
  name : ∀ p ∈ d, p.1.length ≤ 20 ∧ p.2 < n
def Replay (n : Nat) : Dir → List ChM → Dir → Prop
  | d, [], d' => d = d' ∧ DirOk n d
  | d, c :: cs, d' => DirOk n d ∧ Fit1 d c ∧ (∀ i, c.id = some i → i < n) ∧ c.name.length ≤ 20 ∧ c.to.length ≤ 20 ∧ Replay n (doM d c) cs d'
theorem DirOk.more {n m : Nat} {d : Dir} (h : DirOk n d) (hm : n ≤ m) : DirOk m d := ⟨h.up, h.few, fun p hp => ⟨(h.name p hp).1, Nat.lt_of_lt_of_le (h.name p hp).2 hm⟩⟩
theorem Replay.more {n m : Nat} (hm : n ≤ m) : ∀ {cs : List ChM} {d d' : Dir}, Replay n d cs d' → Replay m d cs d'
  | [], d, d', h => ⟨h.1, h.2.more hm⟩
  | c :: cs, d, d', h => ⟨h.1.more hm, h.2.1, fun i hi => Nat.lt_of_lt_of_le (h.2.2.1 i hi) hm, h.2.2.2.1, h.2.2.2.2.1, Replay.more hm h.2.2.2.2.2⟩
theorem Replay.last {n : Nat} : ∀ {cs : List ChM} {d d' : Dir}, Replay n d cs d' → DirOk n d'
  | [], d, d', h => h.1 ▸ h.2
  | c :: cs, d, d', h => Replay.last h.2.2.2.2.2
theorem Replay.first {n : Nat} : ∀ {cs : List ChM} {d d' : Dir}, Replay n d cs d' → DirOk n d
  | [], d, d', h => h.2
  | c :: cs, d, d', h => h.1
theorem Replay.snoc {n : Nat} {c : ChM} (hi : ∀ i, c.id = some i → i < n) (hn : c.name.length ≤ 20) (ht : c.to.length ≤ 20) : ∀ {cs : List ChM} {d d' : Dir}, Replay n d cs d' → Fit1 d' c → DirOk n (doM d' c) → Replay n d (cs ++ [c]) (doM d' c)
  | [], d, d', h, hf, ho => by obtain ⟨rfl, h2⟩ := h; exact ⟨h2, hf, hi, hn, ht, rfl, ho⟩
  | c' :: cs, d, d', h, hf, ho => ⟨h.1, h.2.1, h.2.2.1, h.2.2.2.1, h.2.2.2.2.1, Replay.snoc hi hn ht h.2.2.2.2.2 hf ho⟩
/-- All but the first k changes are still to come. -/
theorem Replay.at {n : Nat} : ∀ (k : Nat) {cs : List ChM} {d d' : Dir}, Replay n d cs d' → k ≤ cs.length → Replay n ((cs.take k).foldl doM d) (cs.drop k) d'
  | 0, cs, d, d', h, _ => h
  | k + 1, [], d, d', h, hk => by simp at hk
  | k + 1, c :: cs, d, d', h, hk => by
    simp only [List.take_succ_cons, List.foldl_cons, List.drop_succ_cons]
    exact Replay.at k h.2.2.2.2.2 (by simpa using hk)

structure FsOk (s : FsM) : Prop where
  room0 : 0 ≤ s.room
  room1 : s.room ≤ 4194304
  calls0 : 0 ≤ s.calls
  fail0 : -1 ≤ s.fail
  fail1 : s.fail ≤ 9223372036854775807
  files : ∀ f ∈ s.files, f.synced ≤ f.b.length ∧ f.b.length ≤ 4194304
  replay : Replay s.files.length s.lasts s.waits s.dir
  waits : (s.waits.length : Int) ≤ s.calls
theorem FsOk.dir {s : FsM} (h : FsOk s) : DirOk s.files.length s.dir := h.replay.last
theorem FsOk.lasts {s : FsM} (h : FsOk s) : DirOk s.files.length s.lasts := h.replay.first

/-! ### What the calls do -/
def mayM (k : Nm) : Bool := k.all (fun c => (decide (97 ≤ c.toNat) && decide (c.toNat ≤ 122)) || (decide (65 ≤ c.toNat) && decide (c.toNat ≤ 90)) || (decide (48 ≤ c.toNat) && decide (c.toNat ≤ 57)) || decide (c.toNat = 46)) && decide (1 ≤ k.length) && decide (k.length ≤ 20)
def lenOf (s : FsM) (i : Nat) : Nat := (s.files[i]?.map (·.b.length)).getD 0
def usedM (s : FsM) : Nat := (s.dir.map fun p => lenOf s p.2).sum
def roomM (n : Int) : Int := min (max n 0) 4194304
def newM (n : Int) : FsM := ⟨roomM n, 0, -1, [], [], [], []⟩
/-- A call is counted; 5: it fails. -/
def callM (s : FsM) : FsM := { s with calls := s.calls + 1, fail := max (s.fail - 1) (-1) }
def failsM (s : FsM) : Bool := s.fail == 0
def changeM (s : FsM) (c : ChM) : FsM := { s with dir := doM s.dir c, waits := s.waits ++ [c] }
def createM (s0 : FsM) (k : Nm) : FsM × Int :=
  let s := callM s0
  if failsM s0 then (s, 5) else if !mayM k then (s, 10) else if (looks s.dir k).isNone && decide (150 ≤ s.dir.length) then (s, 4)
  else (changeM { s with files := s.files ++ [⟨[], 0⟩] } ⟨0, k, [], some s.files.length⟩, 0)
def appendM (s0 : FsM) (k : Nm) (b : List UInt8) : FsM × Int :=
  let s := callM s0
  if failsM s0 then (s, 5) else match looks s.dir k with
  | none => (s, 3)
  | some i => if s.room - usedM s < b.length then (s, 4) else ({ s with files := s.files.modify i fun f => { f with b := f.b ++ b } }, 0)
def syncM (s0 : FsM) (k : Nm) : FsM × Int :=
  let s := callM s0
  if failsM s0 then (s, 5) else match looks s.dir k with
  | none => (s, 3)
  | some i => ({ s with files := s.files.modify i fun f => { f with synced := f.b.length } }, 0)
def syncDirM (s0 : FsM) : FsM × Int :=
  let s := callM s0
  if failsM s0 then (s, 5) else ({ s with lasts := s.dir, waits := [] }, 0)
def renameM (s0 : FsM) (k k' : Nm) : FsM × Int :=
  let s := callM s0
  if failsM s0 then (s, 5) else if (looks s.dir k).isNone then (s, 3) else if !mayM k' then (s, 10) else (changeM s ⟨1, k, k', none⟩, 0)
def removeM (s0 : FsM) (k : Nm) : FsM × Int :=
  let s := callM s0
  if failsM s0 then (s, 5) else if (looks s.dir k).isNone then (s, 3) else (changeM s ⟨2, k, [], none⟩, 0)
def readM (s : FsM) (k : Nm) : Option (List UInt8) := (looks s.dir k).bind fun i => (s.files[i]?).map (·.b)
def rotB (b : List UInt8) (sec : Nat) (x : UInt8) : List UInt8 := b.mapIdx fun i c => if sec * 64 ≤ i ∧ i < (sec + 1) * 64 then c ^^^ (x + UInt8.ofNat (i % 64)) else c
def rotM (s : FsM) (k : Nm) (sec : Int) (x : UInt8) : FsM × Int := match looks s.dir k with
  | none => (s, 3)
  | some i => if sec < 0 ∨ (((lenOf s i + 63) / 64 : Nat) : Int) ≤ sec then (s, 7) else ({ s with files := s.files.modify i fun f => { f with b := rotB f.b sec.toNat x } }, 0)
def crashDir (s : FsM) (n : Int) : Dir := (s.waits.take n.toNat).foldl doM s.lasts
/-- What of a file lasts. -/
def tailOf (f : FileM) (tails : List Int) (j : Nat) : Nat := f.synced + (match tails[j]? with | some t => min (max t 0).toNat (f.b.length - f.synced) | none => 0)
def cutM (f : FileM) (tails : List Int) (j : Nat) : FileM := ⟨f.b.take (tailOf f tails j), tailOf f tails j⟩
def crashFiles (s : FsM) (d : Dir) (tails : List Int) : List FileM := d.mapIdx fun j p => cutM ((s.files[p.2]?).getD ⟨[], 0⟩) tails j
def crashM (s : FsM) (n : Int) (tails : List Int) : FsM :=
  let d := crashDir s n
  let d' := d.mapIdx fun j p => (p.1, j)
  ⟨s.room, 0, -1, crashFiles s d tails, d', d', []⟩

/-! ### .. keeps it well -/
theorem newM_ok (n : Int) : FsOk (newM n) := by
  refine ⟨by simp [newM, roomM]; omega, by simp [newM, roomM]; omega, by simp [newM], by simp [newM], by simp [newM], by simp [newM], ?_, by simp [newM]⟩
  exact ⟨rfl, ⟨List.Pairwise.nil, by simp [newM], by simp [newM]⟩⟩
theorem callM_ok {s : FsM} (h : FsOk s) : FsOk (callM s) := ⟨h.room0, h.room1, by have := h.calls0; simp [callM]; omega, by simp [callM]; omega, by have := h.fail1; simp [callM]; omega, h.files, h.replay, by have := h.waits; simp [callM]; omega⟩
theorem mayM_len {k : Nm} (h : mayM k = true) : k.length ≤ 20 := by
  unfold mayM at h
  simp only [Bool.and_eq_true, decide_eq_true_eq] at h
  exact h.2
theorem looks_name {n : Nat} {d : Dir} (h : DirOk n d) {k : Nm} {i : Nat} (hl : looks d k = some i) : k.length ≤ 20 ∧ i < n := h.name _ (looks_mem hl)
theorem ins_ok {n : Nat} {d : Dir} (h : DirOk n d) {k : Nm} {i : Nat} (hk : k.length ≤ 20) (hi : i < n) (hfew : (ins d k i).length ≤ 150) : DirOk n (ins d k i) :=
  ⟨ins_rising h.up k i, hfew, fun p hp => by
    rcases ins_mem hp with rfl | hp
    · exact ⟨hk, hi⟩
    · exact h.name p hp⟩
theorem del_ok {n : Nat} {d : Dir} (h : DirOk n d) (k : Nm) : DirOk n (del d k) := ⟨del_rising h.up k, Nat.le_trans (del_length d k) h.few, fun p hp => h.name p (del_mem hp)⟩
theorem changeM_ok {s : FsM} (h : FsOk s) {c : ChM} (hf : Fit1 s.dir c) (hi : ∀ i, c.id = some i → i < s.files.length) (hn : c.name.length ≤ 20) (ht : c.to.length ≤ 20) (ho : DirOk s.files.length (doM s.dir c)) (hw : (s.waits.length : Int) + 1 ≤ s.calls) : FsOk (changeM s c) :=
  ⟨h.room0, h.room1, h.calls0, h.fail0, h.fail1, h.files, h.replay.snoc hi hn ht hf ho, by simp [changeM]; exact hw⟩
theorem usedM_callM (s : FsM) : usedM (callM s) = usedM s := rfl
theorem createM_ok {s : FsM} (h : FsOk s) (k : Nm) : FsOk (createM s k).1 := by
  have h1 := callM_ok h
  unfold createM
  simp only
  split
  · exact h1
  split
  · exact h1
  split
  · exact h1
  rename_i h2 h3 h4
  have hm : mayM k = true := by simpa using h3
  have h5 : FsOk { callM s with files := (callM s).files ++ [⟨[], 0⟩] } := ⟨h1.room0, h1.room1, h1.calls0, h1.fail0, h1.fail1, fun f hf => by
    rcases List.mem_append.1 hf with hf | hf
    · exact h1.files f hf
    · simp at hf; subst hf; simp, h1.replay.more (by simp), h1.waits⟩
  refine changeM_ok h5 ⟨fun _ => by simp, fun e => by simp at e⟩ (fun i hi => by simp at hi; subst hi; simp) (mayM_len hm) (by simp) ?_ (by have := h.waits; simp [callM]; omega)
  show DirOk _ (ins (callM s).dir k (callM s).files.length)
  refine ins_ok h5.dir (mayM_len hm) (by simp) ?_
  show (ins (callM s).dir k (callM s).files.length).length ≤ 150
  cases hl : looks (callM s).dir k with
  | none =>
    rw [hl] at h4
    simp at h4
    have := ins_length (callM s).dir k (callM s).files.length
    omega
  | some j => rw [ins_length_in h1.dir.up hl]; exact h1.dir.few
theorem modify_ok {s : FsM} (h : FsOk s) (i : Nat) (g : FileM → FileM) (hg : ∀ f, s.files[i]? = some f → (g f).synced ≤ (g f).b.length ∧ (g f).b.length ≤ 4194304) : FsOk { s with files := s.files.modify i g } :=
  ⟨h.room0, h.room1, h.calls0, h.fail0, h.fail1, fun f hf => by
    obtain ⟨j, hj⟩ := List.getElem?_of_mem hf
    rw [List.getElem?_modify] at hj
    by_cases e : i = j
    · subst e
      cases hf' : s.files[i]? with
      | none => simp [hf'] at hj
      | some f' => simp [hf'] at hj; subst hj; exact hg f' hf'
    · simp [e] at hj
      exact h.files f (List.mem_of_getElem? hj), by
    show Replay (s.files.modify i g).length _ _ _
    rw [List.length_modify]; exact h.replay, h.waits⟩
theorem lenOf_le {s : FsM} (h : FsOk s) (i : Nat) : lenOf s i ≤ 4194304 := by
  unfold lenOf
  cases hf : s.files[i]? with
  | none => simp
  | some f => exact (h.files f (List.mem_of_getElem? hf)).2
theorem usedM_ge {s : FsM} {k : Nm} {i : Nat} (hl : looks s.dir k = some i) : lenOf s i ≤ usedM s := by
  unfold usedM
  have hm := looks_mem hl
  generalize s.dir = d at hm
  induction d with
  | nil => cases hm
  | cons p d ih =>
    rcases List.mem_cons.1 hm with h | h
    · subst h; simp
    · have := ih h; simp; omega
theorem sum_le {α : Type} (f : α → Nat) (B : Nat) (hf : ∀ x, f x ≤ B) : ∀ l : List α, (l.map f).sum ≤ l.length * B
  | [] => by simp
  | a :: l => by
    have := sum_le f B hf l
    have := hf a
    simp only [List.map_cons, List.sum_cons, List.length_cons, Nat.succ_mul]
    omega
theorem usedM_le {s : FsM} (h : FsOk s) : usedM s ≤ 629145600 := by
  unfold usedM
  have := sum_le (fun p : Nm × Nat => lenOf s p.2) 4194304 (fun p => lenOf_le h p.2) s.dir
  have := h.dir.few
  omega
theorem appendM_ok {s : FsM} (h : FsOk s) (k : Nm) (b : List UInt8) : FsOk (appendM s k b).1 := by
  have h1 := callM_ok h
  unfold appendM
  simp only
  split
  · exact h1
  split
  · exact h1
  rename_i i hl
  split
  · exact h1
  rename_i hr
  refine modify_ok h1 i _ fun f hf => ?_
  have h2 := h1.files f (List.mem_of_getElem? hf)
  have h3 : lenOf (callM s) i ≤ usedM (callM s) := usedM_ge hl
  have h4 : lenOf (callM s) i = f.b.length := by unfold lenOf; rw [hf]; rfl
  have := h1.room1
  simp only [List.length_append]
  omega
theorem syncM_ok {s : FsM} (h : FsOk s) (k : Nm) : FsOk (syncM s k).1 := by
  have h1 := callM_ok h
  unfold syncM
  simp only
  split
  · exact h1
  split
  · exact h1
  exact modify_ok h1 _ _ fun f hf => ⟨Nat.le_refl _, (h1.files f (List.mem_of_getElem? hf)).2⟩
theorem syncDirM_ok {s : FsM} (h : FsOk s) : FsOk (syncDirM s).1 := by
  have h1 := callM_ok h
  unfold syncDirM
  simp only
  split
  · exact h1
  exact ⟨h1.room0, h1.room1, h1.calls0, h1.fail0, h1.fail1, h1.files, ⟨rfl, h1.dir⟩, by have := h1.calls0; simpa using this⟩
theorem renameM_ok {s : FsM} (h : FsOk s) (k k' : Nm) : FsOk (renameM s k k').1 := by
  have h1 := callM_ok h
  unfold renameM
  simp only
  split
  · exact h1
  split
  · exact h1
  split
  · exact h1
  rename_i h2 h3 h4
  cases hl : looks (callM s).dir k with
  | none => rw [hl] at h3; simp at h3
  | some i =>
    obtain ⟨hk, hi⟩ := looks_name h1.dir hl
    have hk' := mayM_len (k := k') (by simpa using h4)
    refine changeM_ok h1 ⟨fun e => by simp at e, fun _ => by simp [hl]⟩ (fun i hi => by cases hi) hk hk' ?_ (by have := h.waits; simp [callM]; omega)
    have : doM (callM s).dir ⟨1, k, k', none⟩ = ins (del (callM s).dir k) k' i := by simp [doM, hl]
    rw [this]
    refine ins_ok (del_ok h1.dir k) hk' hi ?_
    have := ins_length (del (callM s).dir k) k' i
    have := del_length_in hl
    have := h1.dir.few
    omega
theorem removeM_ok {s : FsM} (h : FsOk s) (k : Nm) : FsOk (removeM s k).1 := by
  have h1 := callM_ok h
  unfold removeM
  simp only
  split
  · exact h1
  split
  · exact h1
  rename_i h2 h3
  cases hl : looks (callM s).dir k with
  | none => rw [hl] at h3; simp at h3
  | some i =>
    refine changeM_ok h1 ⟨fun e => by simp at e, fun e => by simp at e⟩ (fun i hi => by cases hi) (looks_name h1.dir hl).1 (by simp) ?_ (by have := h.waits; simp [callM]; omega)
    exact del_ok h1.dir k
theorem rotB_length (b : List UInt8) (sec : Nat) (x : UInt8) : (rotB b sec x).length = b.length := by simp [rotB]
theorem rotM_ok {s : FsM} (h : FsOk s) (k : Nm) (sec : Int) (x : UInt8) : FsOk (rotM s k sec x).1 := by
  unfold rotM
  split
  · exact h
  split
  · exact h
  exact modify_ok h _ _ fun f hf => by rw [rotB_length]; exact h.files f (List.mem_of_getElem? hf)
theorem failM_ok {s : FsM} (h : FsOk s) (n : Int) (hn : n ≤ 9223372036854775807) : FsOk { s with fail := max n (-1) } := ⟨h.room0, h.room1, h.calls0, by simp; omega, by simp; omega, h.files, h.replay, h.waits⟩
theorem roomM_ok {s : FsM} (h : FsOk s) (n : Int) : FsOk { s with room := roomM n } := ⟨by simp [roomM]; omega, by simp [roomM]; omega, h.calls0, h.fail0, h.fail1, h.files, h.replay, h.waits⟩
theorem tailOf_le (f : FileM) (tails : List Int) (j : Nat) (h : f.synced ≤ f.b.length) : tailOf f tails j ≤ f.b.length := by
  unfold tailOf
  split
  · exact Nat.add_le_of_le_sub' h (Nat.min_le_right _ _)
  · exact h
theorem crashDir_ok {s : FsM} (h : FsOk s) (n : Int) : DirOk s.files.length (crashDir s n) := by
  unfold crashDir
  by_cases hn : n.toNat ≤ s.waits.length
  · exact (h.replay.at n.toNat hn).first
  · rw [List.take_of_length_le (by omega)]
    have := (h.replay.at s.waits.length (Nat.le_refl _)).first
    rw [List.take_length] at this; exact this
theorem crashM_ok {s : FsM} (h : FsOk s) (n : Int) (tails : List Int) : FsOk (crashM s n tails) := by
  have hd := crashDir_ok h n
  refine ⟨h.room0, h.room1, by simp [crashM], by simp [crashM], by simp [crashM], fun f hf => ?_, ⟨rfl, ?_⟩, by simp [crashM]⟩
  · simp only [crashM, crashFiles, List.mem_mapIdx] at hf
    obtain ⟨j, hj, rfl⟩ := hf
    have hk : ∀ f : FileM, f.synced ≤ f.b.length ∧ f.b.length ≤ 4194304 → (cutM f tails j).synced ≤ (cutM f tails j).b.length ∧ (cutM f tails j).b.length ≤ 4194304 := fun f hf => by
      have := tailOf_le f tails j hf.1
      simp only [cutM, List.length_take]
      omega
    apply hk
    cases hf : s.files[((crashDir s n)[j]).2]? with
    | none => simp
    | some f => exact h.files f (List.mem_of_getElem? hf)
  · refine ⟨?_, by simpa [crashM] using hd.few, fun p hp => ?_⟩
    · have : ((crashDir s n).mapIdx fun j p => (p.1, j)).map (·.1) = (crashDir s n).map (·.1) := by
        apply List.ext_getElem?
        intro i
        simp [List.getElem?_map, List.getElem?_mapIdx]
        cases (crashDir s n)[i]? <;> simp
      unfold Rising crashM
      simp only
      rw [this]; exact hd.up
    · simp only [crashM, List.mem_mapIdx] at hp
      obtain ⟨j, hj, rfl⟩ := hp
      exact ⟨(hd.name _ (List.getElem_mem hj)).1, by simpa [crashM, crashFiles] using hj⟩
end Go.Vc
