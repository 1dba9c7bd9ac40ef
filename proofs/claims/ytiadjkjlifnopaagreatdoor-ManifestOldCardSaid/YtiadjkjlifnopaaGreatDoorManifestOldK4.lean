/- Part 4 of the texts that the law of the last one leans on: steps of the walk and contracts of functions. Its conditions stand in each theorem. -/
import Derived.Test.YtiadjkjlifnopaaGreatDoorManifestOldK3
import Derived.Test.YtiadjkjlifnopaaGreatDoorManifestOldK2
import Derived.Test.YtiadjkjlifnopaaGreatDoorManifestOldK1
/-! Files: a change of the directory; new ones. -/
set_option linter.unusedVariables false
set_option linter.unusedSimpArgs false
namespace Go.Vc
open Go
theorem Replay.ids {n : Nat} : ∀ {cs : List ChM} {d d' : Dir}, Replay n d cs d' → ∀ c ∈ cs, ∀ i, c.id = some i → i < n
  | [], d, d', h, c, hc => by cases hc
  | c' :: cs, d, d', h, c, hc => by
    rcases List.mem_cons.1 hc with rfl | hc
    · exact h.2.2.1
    · exact Replay.ids h.2.2.2.2.2 c hc
theorem at2_more {fb : List (Nat × Value)} (q : Nat × Value) {d : Dir} (hd : DirOk fb.length d) (k : Nm) : at2 (fb ++ [q]) d k = at2 fb d k := by
  unfold at2
  cases hl : looks d k with
  | none => rfl
  | some i =>
    have := (hd.name _ (looks_mem hl)).2
    show ((fb ++ [q])[i]?).map _ = (fb[i]?).map _
    rw [List.getElem?_append_left this]
theorem idV_more {fb : List (Nat × Value)} (q : Nat × Value) {o : Option Nat} (h : ∀ i, o = some i → i < fb.length) : idV (fb ++ [q]) o = idV fb o := by
  unfold idV
  cases o with
  | none => rfl
  | some i =>
    simp only [Option.bind_some]
    rw [List.getElem?_append_left (h i rfl)]
theorem chV_more {fb : List (Nat × Value)} (q : Nat × Value) {c : ChM} (h : ∀ i, c.id = some i → i < fb.length) : chV (fb ++ [q]) c = chV fb c := by
  unfold chV; rw [idV_more q h]
theorem flatMap_congr' {α β : Type} {f g : α → List β} : ∀ {l : List α}, (∀ x ∈ l, f x = g x) → l.flatMap f = l.flatMap g
  | [], _ => rfl
  | a :: l, h => by rw [List.flatMap_cons, List.flatMap_cons, h a (by simp), flatMap_congr' (fun x hx => h x (by simp [hx]))]
theorem chV_length (fb : List (Nat × Value)) (l : List ChM) : (l.flatMap (chV fb)).length = l.length * 4 := by
  induction l with
  | nil => rfl
  | cons a l ih => rw [List.flatMap_cons, List.length_append, ih]; simp [chV]; omega
/-- From a world to the next a file system's blocks are the old ones, or new. -/
def Grows (w : World) (g : Nat) (p p' : FsP) : Prop := ∀ k ∈ p'.fp g, k ∈ p.fp g ∨ w.heap.size ≤ k
theorem Grows.refl (w : World) (g : Nat) (p : FsP) : Grows w g p p := fun _ h => .inl h
theorem Grows.trans {w w' : World} {g : Nat} {p p' p'' : FsP} (h : Grows w g p p') (k : Grows w' g p' p'') (hs : w.heap.size ≤ w'.heap.size) : Grows w g p p'' := fun i hi => by
  rcases k i hi with h1 | h1
  · exact h i h1
  · exact .inr (Nat.le_trans hs h1)
theorem Chg.fps {w w1 w2 : World} {g : Nat} {p p' : FsP} (h1 : Chg (p.fp g) w w1) (hg : Grows w g p p') (h2 : Chg (p'.fp g) w1 w2) : Chg (p.fp g) w w2 :=
  h1.trans h2 (fun k hk hlt => by rcases hg k hk with h | h; exact h; omega)
end Go.Vc
namespace Go.Proofs.YtiadjkjlifnopaaGreatDoor.Tryz
open Go Go.Vc
section
variable {w w' : World} {g : Nat} {s : FsM} {p : FsP} {S : List Nat}
/-- A new file's block is taken in. -/
theorem FsAt.addFile (x : FsAt w g s p) {gf : Nat} (hb : Blk w gf 106 [.slice none 0 0, .int .i64 0]) (hf : gf ∉ p.fp g) (hok : FsOk { s with files := s.files ++ [⟨[], 0⟩] }) :
    FsAt w g { s with files := s.files ++ [⟨[], 0⟩] } { p with fb := p.fb ++ [(gf, .slice none 0 0)] } := by
  have hd : DirOk p.fb.length s.dir := by rw [x.len]; exact x.ok.dir
  have hl : DirOk p.fb.length s.lasts := by rw [x.len]; exact x.ok.lasts
  have hget : ∀ (i : Nat) q, (p.fb ++ [(gf, Value.slice none 0 0)])[i]? = some q → (i < p.fb.length ∧ p.fb[i]? = some q) ∨ (i = p.fb.length ∧ q = (gf, .slice none 0 0)) := fun i q hq => by
    by_cases hi : i < p.fb.length
    · rw [List.getElem?_append_left hi] at hq; exact .inl ⟨hi, hq⟩
    · rw [List.getElem?_append_right (by omega)] at hq
      have := (List.getElem?_eq_some_iff.1 hq).1
      simp at this
      obtain rfl : i = p.fb.length := by omega
      simp at hq
      exact .inr ⟨rfl, hq.symm⟩
  have hgf : ∀ (i : Nat) f, (s.files ++ [(⟨[], 0⟩ : FileM)])[i]? = some f → i < p.fb.length → s.files[i]? = some f := fun i f hf hi => by
    rw [List.getElem?_append_left (by rw [← x.len]; exact hi)] at hf; exact hf
  have hgl : ∀ f, (s.files ++ [(⟨[], 0⟩ : FileM)])[p.fb.length]? = some f → f = ⟨[], 0⟩ := fun f hf => by
    rw [x.len, List.getElem?_append_right (Nat.le_refl _)] at hf
    simp at hf; exact hf.symm
  refine ⟨hok, x.blk, x.dirM.congr (fun k => (at2_more _ hd k).symm), x.lastsM.congr (fun k => (at2_more _ hl k).symm), ?_, by simp [x.len], fun i q f hq hf' => ?_, fun i q f hq hf' => ?_, x.apart1, ?_, fun i j q q' h hq hq' h1 h2 => ?_⟩
  · show Own w _ 4 p.wv s.waits.length (s.waits.flatMap (chV (p.fb ++ [_])))
    rw [flatMap_congr' (g := chV p.fb) (fun c hc => chV_more _ (by rw [x.len]; exact x.ok.replay.ids c hc))]
    exact x.waitsM
  · rcases hget i q hq with ⟨hi, hq⟩ | ⟨rfl, rfl⟩
    · exact x.fblk i q f hq (hgf i f hf' hi)
    · obtain rfl := hgl f hf'; exact hb
  · rcases hget i q hq with ⟨hi, hq⟩ | ⟨rfl, rfl⟩
    · exact x.fown i q f hq (hgf i f hf' hi)
    · obtain rfl := hgl f hf'; exact Own.nil _ _ _
  · rw [List.map_append]
    refine List.nodup_append.2 ⟨x.apart2, by simp, fun a ha b hb e => ?_⟩
    obtain ⟨q, hq, rfl⟩ := List.mem_map.1 ha
    simp at hb
    subst hb
    exact hf (FsP.mem_fp.2 (.inr (.inr (.inr (.inr ⟨q, hq, .inl e.symm⟩)))))
  · rcases hget i q hq with ⟨hi, hq⟩ | ⟨rfl, rfl⟩
    · rcases hget j q' hq' with ⟨hj, hq'⟩ | ⟨rfl, rfl⟩
      · exact x.apart3 i j q q' h hq hq' h1 h2
      · cases h2
    · cases h1
/-- Its directory and the row of what waits have turned. -/
theorem FsAt.rest (x : FsAt w g s p) (hc : Chg S w w') (hS : ∀ k ∈ S, k < w.heap.size → k = g ∨ k = p.md ∨ p.wv.ownBlock = some k) {s' : FsM} {wv' : Value} (hfiles : s'.files = s.files) (hl : s'.lasts = s.lasts)
    (hb : Blk w' g 86 [.int .i64 s'.room, .map (some p.md), .map (some p.ml), wv', .int .i64 s'.calls, .int .i64 s'.fail]) (hdir : MapAt keyV ptrV w' p.md (at2 p.fb s'.dir))
    (hw : Own w' 108 4 wv' s'.waits.length (s'.waits.flatMap (chV p.fb))) (hok : FsOk s') : FsAt w' g s' { p with wv := wv' } := by
  have hc := hc.mono (S' := g :: p.md :: p.wv.ownBlock.toList) (fun k hk hlt => by
    rcases hS k hk hlt with h | h | h
    · simp [h]
    · simp [h]
    · simp [h])
  have hrow : ∀ k t cs, Blk w k t cs → t ≠ 86 → t ≠ 108 → k ∉ g :: p.md :: p.wv.ownBlock.toList := fun k t cs hk h1 h2 hm => by
    rcases List.mem_cons.1 hm with rfl | hm
    · exact hk.ne_ x.blk h1 rfl
    · rcases List.mem_cons.1 hm with rfl | hm
      · exact x.dirM.ne_blk hk rfl
      · obtain ⟨cur, hr⟩ := x.waitsM.row (by simpa using hm)
        exact hk.ne_ hr h2 rfl
  refine ⟨hok, hb, hdir, ?_, hw, by rw [hfiles]; exact x.len, fun i q f hq hf => ?_, fun i q f hq hf => ?_, x.apart1, x.apart2, x.apart3⟩
  · rw [hl]
    refine x.lastsM.keep hc (fun hm => ?_)
    rcases List.mem_cons.1 hm with h | hm
    · exact x.lastsM.ne_blk x.blk h
    · rcases List.mem_cons.1 hm with h | hm
      · exact x.apart1 h.symm
      · obtain ⟨cur, hr⟩ := x.waitsM.row (show p.wv.ownBlock = some p.ml by simpa using hm)
        exact x.lastsM.ne_blk hr rfl
  · rw [hfiles] at hf
    have h1 := x.fblk i q f hq hf
    exact h1.keep hc (hrow _ _ _ h1 (by decide) (by decide))
  · rw [hfiles] at hf
    refine (x.fown i q f hq hf).keep hc (fun h hh => ?_)
    obtain ⟨cur, hr⟩ := (x.fown i q f hq hf).row hh
    exact hrow _ _ _ hr (by decide) (by decide)
end

set_option maxHeartbeats 4000000 in
theorem change_has (g : Nat) (s : FsM) (p : FsP) (c : ChM) (w : World) (x : FsAt w g s p) (hf : Fit1 s.dir c) (hi : ∀ i, c.id = some i → i < s.files.length) (hok : FsOk (changeM s c)) (hcalls : s.calls < 1000000000) :
    Has Go.Proofs.Tryz.prog 56 #[ptrV g, .agg (chV p.fb c).toArray] w
    (fun v w' => Chg (p.fp g) w w' ∧ v = .int .i64 0 ∧ ∃ wv', FsAt w' g (changeM s c) { p with wv := wv' } ∧ Grows w g p { p with wv := wv' }) := by
  refine enter Go.Proofs.Tryz.func56 rfl rfl (by decide) rfl (e := [(0, ptrV g), (1, .agg (chV p.fb c).toArray)]) ⟨rfl, rfl, trivial⟩ ?_
  unfold ptrV
  have hwl := x.ok.waits
  have hwl2 : s.waits.length < 1000000000 := by omega
  repeat (first | refine W_seq ?_ | refine W_region ?_ | refine WL_some rfl rfl rfl ?_)
  refine op_box rfl rfl (fun g1 w1 hs1 hc1 hg1 => ?_)
  have hg1 : Blk w1 g1 108 [.int .i64 c.kind, .string (str c.name), .string (str c.to), idV p.fb c.id] := hg1
  have x1 := x.keep0 hc1
  have hb1 := x1.blk
  repeat (first | refine W_seq ?_ | refine Then_n ?_ | refine WL_nil ?_ | refine WL_some rfl rfl rfl ?_ | refine op_assign rfl rfl ?_)
  refine W_walk 5 [] fol (by kernel_rfl) (by kernel_rfl) ?_
  refine Walk.plain rfl (by intro val w_ hR hp; exact op_move rfl rfl ⟨Chg.refl _ _, rfl⟩) ?_; dsimp only [List.nil_append, List.cons_append]
  refine Walk.plain rfl (by intro val w_ hR hp; exact op_nilCheck rfl rfl ⟨Chg.refl _ _, rfl⟩) ?_; dsimp only [List.nil_append, List.cons_append]
  refine Walk.plain rfl (by intro val w_ hR hp; exact op_fieldAddr T rfl rfl rfl rfl rfl rfl rfl rfl ⟨Chg.refl _ _, rfl⟩) ?_; dsimp only [List.nil_append, List.cons_append]
  refine Walk.plain rfl (by intro val w_ hR hp; exact op_load T rfl rfl rfl rfl ((Blk.keep0 hb1 hR).cell rfl) ⟨Chg.refl _ _, rfl⟩) ?_; dsimp only [List.nil_append, List.cons_append]
  refine Walk.plain rfl (by intro val w_ hR hp; exact op_load_agg T rfl rfl rfl rfl (Blk.keep0 hg1 hR) (Nat.le_of_ble_eq_true rfl) rfl ⟨Chg.refl _ _, rfl⟩) ?_; dsimp only [List.nil_append, List.cons_append]
  refine Walk.fin ?_
  intro val w2 hc2 _
  have x2 := x1.keep0 hc2
  have hg2 := hg1.keep0 hc2
  refine WL_sub (e' := [(0, .pointer (some ⟨g, 0, none⟩)), (3, .pointer (some ⟨g1, 0, none⟩)), (8, .map (some p.md)), (9, .agg (chV p.fb c).toArray)]) ⟨rfl, rfl, rfl, rfl, trivial⟩ ?_
  repeat (refine WL_some rfl rfl rfl ?_)
  refine op_call rfl rfl rfl (do_has p.md p.fb s.dir c w2 x2.dirM (by rw [x2.len]; exact x2.ok.dir) hf (by rw [x2.len]; exact hi)) ?_
  rintro v w3 ⟨hc3, hm3⟩
  have hmdb : ∀ k t cs, Blk w2 k t cs → k ∉ [p.md] := fun k t cs hk hm => by
    simp at hm; subst hm; exact x2.dirM.ne_blk hk rfl
  have hb3 := x2.blk.keep hc3 (hmdb _ _ _ x2.blk)
  have hg3 := hg2.keep hc3 (hmdb _ _ _ hg2)
  have hw3 : Own w3 108 4 p.wv s.waits.length (s.waits.flatMap (chV p.fb)) := x2.waitsM.keep hc3 (fun h hh => by
    obtain ⟨cur, hr⟩ := x2.waitsM.row hh
    exact hmdb _ _ _ hr)
  obtain ⟨Aw, cw, hwf, _, _⟩ := hw3.form
  have hS : ∀ k ∈ p.wv.ownBlock.toList, k < w3.heap.size ∧ k ∈ p.fp g := fun k hk => ⟨hw3.lt (by simpa using hk), FsP.mem_fp.2 (.inr (.inr (.inr (.inl (by simpa using hk)))))⟩
  have hne1 : g ∉ p.wv.ownBlock.toList := fun hm => by
    obtain ⟨cur, hr⟩ := hw3.row (show p.wv.ownBlock = some g by simpa using hm)
    exact hb3.ne_ hr (by decide) rfl
  have hsz1 : w.heap.size ≤ g1 := hs1
  have hne2 : g1 ∉ p.wv.ownBlock.toList := fun hm => by
    have := x.waitsM.lt (show p.wv.ownBlock = some g1 by simpa using hm)
    omega
  repeat (first | refine W_seq ?_ | refine Then_n ?_ | refine WL_nil ?_)
  refine Q.W_walkq 8 7 p.wv.ownBlock.toList fol (by kernel_rfl) (by kernel_rfl) ?_
  refine Q.Walk.plain rfl rfl (by intro val w_ hR hp; exact op_move rfl rfl ⟨Chg.refl _ _, rfl⟩) ?_; dsimp only [List.nil_append, List.cons_append]
  refine Q.Walk.plain rfl rfl (by intro val w_ hR hp; exact op_move rfl rfl ⟨Chg.refl _ _, rfl⟩) ?_; dsimp only [List.nil_append, List.cons_append]
  refine Q.Walk.plain rfl rfl (by intro val w_ hR hp; exact op_nilCheck rfl rfl ⟨Chg.refl _ _, rfl⟩) ?_; dsimp only [List.nil_append, List.cons_append]
  refine Q.Walk.plain rfl rfl (by intro val w_ hR hp; exact op_fieldAddr T rfl rfl rfl rfl rfl rfl rfl rfl ⟨Chg.refl _ _, rfl⟩) ?_; dsimp only [List.nil_append, List.cons_append]
  refine Q.Walk.plain (v := p.wv) rfl rfl (by intro val w_ hR hp; exact op_load T rfl rfl rfl rfl ((hb3.keep hR hne1).cell rfl) ⟨Chg.refl _ _, rfl⟩) ?_; dsimp only [List.nil_append, List.cons_append]
  refine Q.Walk.plain (v := .agg (chV p.fb c).toArray) rfl rfl (by intro val w_ hR hp; exact op_load_agg T rfl rfl rfl rfl (hg3.keep hR hne2) (Nat.le_of_ble_eq_true rfl) rfl ⟨Chg.refl _ _, rfl⟩) ?_; dsimp only [List.nil_append, List.cons_append]
  refine Q.Walk.rel rfl (fun u w => ∃ g5, u = .slice (some ⟨g5, 0, none⟩) 1 1 ∧ Blk w g5 108 (chV p.fb c) ∧ w3.heap.size ≤ g5) rfl (fun u a b ⟨g5, h1, h2, h3⟩ hab => ⟨g5, h1, h2.keep hab (fun hm => by have := (hS _ hm).1; omega), h3⟩) ?_ ?_
  · intro val w_ hR hp
    refine op_buildSlice T rfl rfl rfl rfl rfl rfl rfl (fun g5 w5 hs5 hc5 hg5 => ⟨hc5, g5, rfl, hg5, by have := hR.size; omega⟩)
  dsimp only [List.nil_append, List.cons_append]
  refine Q.Walk.turn rfl (fun u w => Own w 108 4 u (s.waits.length + 1) ((s.waits ++ [c]).flatMap (chV p.fb)) ∧ (u.ownBlock = p.wv.ownBlock ∨ ∃ h, u.ownBlock = some h ∧ w3.heap.size ≤ h)) rfl (fun u a b h hab => ⟨h.1.keep0 hab, h.2⟩) ?_ ?_
  · intro val w_ hR hp
    obtain ⟨g5, he, hg5, hs5⟩ : ∃ g5, val 6 = .slice (some ⟨g5, 0, none⟩) 1 1 ∧ Blk w_ g5 108 (chV p.fb c) ∧ w3.heap.size ≤ g5 := hp 6 rfl _ _ rfl rfl
    have hw_ := hw3.keep0 hR
    refine op_append T (n := s.waits.length) (xs := s.waits.flatMap (chV p.fb)) (m := 1) (news := chV p.fb c) rfl rfl rfl (congrArg some he) rfl rfl rfl rfl hw_ rfl ?_ (by unfold maxLen; omega) (by show (s.waits.length + 1) * _ ≤ _; exact Nat.le_trans (Nat.mul_le_mul_right _ (show s.waits.length + 1 ≤ 1000000000 by omega)) (by decide)) ?_
    · intro j u hj
      refine ⟨⟨_, rfl, by rw [add_plain]; exact hg5.cell hj⟩, ?_⟩
      obtain ⟨ip, hip⟩ := idV_form p.fb c.id
      unfold chV at hj
      rw [hip] at hj
      match j, hj with
      | 0, hj => cases hj; rfl
      | 1, hj => cases hj; rfl
      | 2, hj => cases hj; rfl
      | 3, hj => cases hj; rfl
    · intro u w6 hu hc6 hb6 _
      refine ⟨hc6, ?_, hb6.imp id (fun ⟨h, h1, h2⟩ => ⟨h, h1, by have := hR.size; omega⟩)⟩
      rw [List.flatMap_append]
      simpa using hu
  dsimp only [List.nil_append, List.cons_append]
  refine Q.Walk.fin ?_
  intro val w6 hc6 hp
  obtain ⟨hw6, hwb6⟩ : Own w6 108 4 (val 7) (s.waits.length + 1) ((s.waits ++ [c]).flatMap (chV p.fb)) ∧ ((val 7).ownBlock = p.wv.ownBlock ∨ ∃ h, (val 7).ownBlock = some h ∧ w3.heap.size ≤ h) := hp 7 (by omega) _ _ rfl rfl
  clear hp
  refine WL_sub (e' := [(0, .pointer (some ⟨g, 0, none⟩)), (11, .pointer (some ⟨g, 0, none⟩)), (18, val 7)]) ⟨rfl, rfl, rfl, trivial⟩ ?_
  generalize val 7 = wv6 at hw6 hwb6
  obtain ⟨A6, c6, rfl, _, _⟩ := hw6.form
  have hb6 := hb3.keep hc6 hne1
  have hm6 := hm3.keep hc6 (fun hm => by
    obtain ⟨cur, hr⟩ := hw3.row (show p.wv.ownBlock = some p.md by simpa using hm)
    exact hm3.ne_blk hr rfl)
  repeat (first | refine WL_some rfl rfl rfl ?_ | refine WL_none rfl rfl ?_ | refine op_nilCheck rfl rfl ?_ | refine op_fieldAddr T rfl rfl rfl rfl rfl rfl rfl rfl ?_)
  refine op_store T rfl rfl rfl rfl rfl rfl hb6 (Nat.le_of_ble_eq_true rfl) (fun w7 hc7 hb7 _ => ?_)
  repeat (first | refine W_seq ?_ | refine W_region ?_ | refine W_ret ?_ | refine Then_n ?_ | refine WL_nil ?_ | refine WL_some rfl rfl rfl ?_ | refine op_assign rfl rfl ?_)
  have hc02 : Chg [] w w2 := hc1.trans' hc2
  have hc07 : Chg (g :: p.md :: p.wv.ownBlock.toList) w w7 := (((hc02.mono (fun k hk _ => by cases hk)).trans hc3 (fun k hk _ => by simp at hk; simp [hk])).trans hc6 (fun k hk _ => by simp at hk; simp [hk])).trans hc7 (fun k hk _ => by simp at hk; simp [hk])
  have hsz : w.heap.size ≤ w3.heap.size := Nat.le_trans hc02.size hc3.size
  refine post1 (.inl rfl) rfl rfl ⟨hc07.mono (fun k hk _ => ?_), rfl, _, x.rest hc07 (fun k hk _ => by simpa using hk) rfl rfl hb7 (hm6.keep hc7 (by simpa using hm6.ne_blk hb6)) ?_ hok, ?_⟩
  · simp at hk
    rcases hk with h | h | h
    · exact FsP.mem_fp.2 (.inl h)
    · exact FsP.mem_fp.2 (.inr (.inl h))
    · exact FsP.mem_fp.2 (.inr (.inr (.inr (.inl h))))
  · show Own w7 _ 4 _ (s.waits ++ [c]).length _
    rw [List.length_append]
    refine hw6.keep hc7 (fun h hh hm => ?_)
    simp at hm
    obtain ⟨cur, hr⟩ := hw6.row hh
    rw [hm] at hr
    exact hb6.ne_ hr (by decide) rfl
  · intro k hk
    rcases FsP.mem_fp.1 hk with h | h | h | h | h
    · exact .inl (FsP.mem_fp.2 (.inl h))
    · exact .inl (FsP.mem_fp.2 (.inr (.inl h)))
    · exact .inl (FsP.mem_fp.2 (.inr (.inr (.inl h))))
    · rcases hwb6 with h1 | ⟨i, h1, h2⟩
      · exact .inl (FsP.mem_fp.2 (.inr (.inr (.inr (.inl (h1.symm.trans h))))))
      · have h : Value.ownBlock _ = some k := h
        rw [h1] at h; injection h with h; exact .inr (by omega)
    · exact .inl (FsP.mem_fp.2 (.inr (.inr (.inr (.inr h)))))
end Go.Proofs.YtiadjkjlifnopaaGreatDoor.Tryz
/-! Files: how many bytes; names; Create, Rename, Remove; the scalars. -/
set_option linter.unusedVariables false
set_option linter.unusedSimpArgs false
namespace Go.Vc
open Go
def lenAt (s : FsM) (k : Nm) : Nat := match looks s.dir k with
  | some i => lenOf s i
  | none => 0
theorem usedM_eq {s : FsM} (h : FsOk s) : usedM s = ((s.dir.map (·.1)).map (lenAt s)).sum := by
  unfold usedM
  rw [List.map_map]
  congr 1
  refine List.map_congr_left fun p hp => ?_
  simp only [Function.comp, lenAt, looks_of_mem h.dir.up (k := p.1) (i := p.2) hp]
theorem lenAt_le {s : FsM} (h : FsOk s) (k : Nm) : lenAt s k ≤ 4194304 := by
  unfold lenAt
  split
  · exact lenOf_le h _
  · omega
theorem at2_isSome {fb : List (Nat × Value)} {d : Dir} (hd : DirOk fb.length d) (k : Nm) : (at2 fb d k).isSome = true ↔ k ∈ d.map (·.1) := by
  rw [← looks_isSome]
  unfold at2
  cases hl : looks d k with
  | none => simp
  | some i =>
    have := (hd.name _ (looks_mem hl)).2
    simp [List.getElem?_eq_getElem this]
theorem at2_inv {fb : List (Nat × Value)} {d : Dir} {k : Nm} {b : Nat} (h : at2 fb d k = some b) : ∃ (i : Nat) (q : Nat × Value), looks d k = some i ∧ fb[i]? = some q ∧ b = q.1 := by
  unfold at2 at h
  cases hl : looks d k with
  | none => rw [hl] at h; cases h
  | some i =>
    rw [hl] at h
    cases hq : fb[i]? with
    | none => simp [hq] at h
    | some q => simp [hq] at h; exact ⟨i, q, rfl, hq, h.symm⟩
end Go.Vc
namespace Go.Proofs.YtiadjkjlifnopaaGreatDoor.Tryz
open Go Go.Vc
theorem FsAt.dirOk {w : World} {g : Nat} {s : FsM} {p : FsP} (x : FsAt w g s p) : DirOk p.fb.length s.dir := by rw [x.len]; exact x.ok.dir
theorem FsAt.get {w : World} {g : Nat} {s : FsM} {p : FsP} (x : FsAt w g s p) {k : Nm} {i : Nat} (hl : looks s.dir k = some i) : ∃ (q : Nat × Value) (f : FileM), p.fb[i]? = some q ∧ s.files[i]? = some f := by
  have h := (x.dirOk.name _ (looks_mem hl)).2
  have h2 := h
  rw [x.len] at h2
  exact ⟨_, _, List.getElem?_eq_getElem h, List.getElem?_eq_getElem h2⟩

set_option maxHeartbeats 1000000 in
theorem used_has (g : Nat) (s : FsM) (p : FsP) (w : World) (x : FsAt w g s p) : Has Go.Proofs.Tryz.prog 70 #[ptrV g] w (fun v w' => Chg [] w w' ∧ v = .int .i64 (usedM s)) := by
  refine enter Go.Proofs.Tryz.func70 rfl rfl (by decide) rfl (e := [(0, ptrV g)]) ⟨rfl, trivial⟩ ?_
  unfold ptrV
  have hb := x.blk
  have hd := x.dirOk
  have hnd := hd.up.nodup
  repeat (first | refine W_seq ?_ | refine W_region ?_ | refine Then_n ?_ | refine WL_nil ?_ | refine W_condT rfl ?_ | refine WL_some rfl rfl rfl ?_ | refine op_move rfl rfl ?_ | refine op_assign rfl rfl ?_ | refine op_nilCheck rfl rfl ?_ | refine op_fieldAddr T rfl rfl rfl rfl rfl rfl rfl rfl ?_ | refine op_neq_nilptr T rfl rfl rfl rfl rfl ?_ | refine op_loadB T rfl rfl rfl rfl (by assumption) (by exact rfl) ?_)
  refine op_range T strKey rfl rfl rfl x.dirM (fun it w1 hsi hc1 hI1 => ?_)
  repeat (first | refine W_block ?_ | refine Then_n ?_ | refine WL_nil ?_)
  refine W_loop (σ := List Nm) (fun ks => [(0, .pointer (some ⟨g, 0, none⟩)), (3, .int .i64 ((ks.map (lenAt s)).sum : Nat)), (12, .pointer (some ⟨it, 0, none⟩))])
    (fun (ks : List Nm) w' => Chg [] w w' ∧ IterAt keyV ptrV w' it p.md (at2 p.fb s.dir) ks) (fun ks => 151 - ks.length) [] ⟨rfl, rfl, rfl, trivial⟩ ⟨hc1, hI1⟩ ?_
  rintro ks w2 ⟨hc2, hI2⟩
  have hin : ∀ k ∈ ks, k ∈ s.dir.map (·.1) := fun k hk => by
    obtain ⟨b, hb⟩ := hI2.mem k hk
    exact (at2_isSome hd k).1 (by rw [hb]; rfl)
  have hkl := nodup_length ks _ hI2.nodup hin
  have hfew := hd.few
  rw [List.length_map] at hkl
  have hsum := sum_le (lenAt s) 4194304 (lenAt_le x.ok) ks
  repeat (first | refine W_seq ?_ | refine W_region ?_ | refine WL_some rfl rfl rfl ?_)
  refine op_next strKey rfl rfl hI2 (fun hall => ?_) (fun k b w3 hf hkn hc3 hs3 hI3 => ?_)
  · have hp : ks.Perm (s.dir.map (·.1)) := (List.perm_ext_iff_of_nodup hI2.nodup hnd).2 fun k => ⟨hin k, fun hk => by
      obtain ⟨b, hb⟩ := Option.isSome_iff_exists.1 ((at2_isSome hd k).2 hk)
      exact hall k b hb⟩
    have hu : (ks.map (lenAt s)).sum = usedM s := by rw [usedM_eq x.ok]; exact (hp.map (lenAt s)).sum_nat
    rw [hu]
    repeat (first | refine W_seq ?_ | refine W_region ?_ | refine W_exit ?_ | refine W_ret ?_ | refine Then_n ?_ | refine Then_x ?_ | refine InBlock_hit ?_ | refine Round_x ?_ | refine WL_nil ?_ | refine W_condF rfl ?_ | refine WL_some rfl rfl rfl ?_ | refine op_move rfl rfl ?_ | refine op_assign rfl rfl ?_ | refine op_extract rfl rfl rfl ?_)
    exact post1 (.inl rfl) rfl rfl ⟨hc2, rfl⟩
  · obtain ⟨i, q, hl, hq, rfl⟩ := at2_inv hf
    obtain ⟨q', f, hq', hfi⟩ := x.get hl
    rw [hq] at hq'; injection hq' with hq'; subst hq'
    have hc03 : Chg [] w w3 := hc2.trans hc3 (fun j hj hlt => by simp at hj; omega)
    have hbf := (x.fblk i q f hq hfi).keep0 hc03
    obtain ⟨A, c, hv, hv1, hv2⟩ := (x.fown i q f hq hfi).form
    rw [hv] at hbf
    have hla : lenAt s k = f.b.length := by unfold lenAt lenOf; rw [hl]; simp [hfi]
    have hfl := (x.ok.files f (List.mem_of_getElem? hfi)).2
    repeat (first | refine W_seq ?_ | refine W_block ?_ | refine W_region ?_ | refine W_skip ?_ | refine Then_n ?_ | refine WL_nil ?_ | refine W_condT rfl ?_ | refine WL_some rfl rfl rfl ?_ | refine op_extract rfl rfl rfl ?_)
    refine op_entry strKey rfl rfl hI3 hf ?_
    unfold ptrV
    repeat (first | refine W_region ?_ | refine Then_n ?_ | refine InBlock_n ?_ | refine WL_nil ?_ | refine WL_some rfl rfl rfl ?_ | refine op_move rfl rfl ?_ | refine op_assign rfl rfl ?_ | refine op_len_slice T rfl rfl rfl rfl ?_ | refine op_add rfl rfl rfl (wrap_i64_in (by omega) (by omega)) ?_ | refine op_extract rfl rfl rfl ?_ | refine op_nilCheck rfl rfl ?_ | refine op_fieldAddr T rfl rfl rfl rfl rfl rfl rfl rfl ?_ | refine op_loadB T rfl rfl rfl rfl (by assumption) (by exact rfl) ?_)
    have hin3 : ∀ k' ∈ ks ++ [k], k' ∈ s.dir.map (·.1) := fun k' hk' => by
      obtain ⟨b, hb⟩ := hI3.mem k' hk'
      exact (at2_isSome hd k').1 (by rw [hb]; rfl)
    have hkl3 := nodup_length (ks ++ [k]) _ hI3.nodup hin3
    rw [List.length_map, List.length_append] at hkl3
    simp at hkl3
    refine Round_n (ks ++ [k]) ⟨rfl, ?_, rfl, trivial⟩ ⟨hc03, hI3⟩ (by simp; omega)
    rw [List.map_append, List.sum_append]
    simp only [List.map_cons, List.map_nil, List.sum_cons, List.sum_nil, hla]
    exact some_int (by omega)

theorem names_has (g : Nat) (s : FsM) (p : FsP) (w : World) (x : FsAt w g s p) :
    Has Go.Proofs.Tryz.prog 60 #[ptrV g] w (fun v w' => Chg [] w w' ∧ Own w' 9 1 v s.dir.length ((s.dir.map (·.1)).map keyV) ∧ ∀ h, v.ownBlock = some h → w.heap.size ≤ h) := by
  refine enter Go.Proofs.Tryz.func60 rfl rfl (by decide) rfl (e := [(0, ptrV g)]) ⟨rfl, trivial⟩ ?_
  unfold ptrV
  have hb := x.blk
  have hd := x.dirOk
  repeat (first | refine W_seq ?_ | refine W_region ?_ | refine W_skip ?_ | refine Then_n ?_ | refine WL_nil ?_ | refine W_condF rfl ?_ | refine WL_some rfl rfl rfl ?_ | refine op_move rfl rfl ?_ | refine op_assign rfl rfl ?_ | refine op_nilCheck rfl rfl ?_ | refine op_fieldAddr T rfl rfl rfl rfl rfl rfl rfl rfl ?_ | refine op_eql_nilptr T rfl rfl rfl rfl rfl ?_ | refine op_loadB T rfl rfl rfl rfl (by assumption) (by exact rfl) ?_)
  refine op_call rfl rfl rfl (keysD_has p.md w) ?_
  rintro _ _ ⟨rfl, rfl⟩
  repeat (refine WL_some rfl rfl rfl ?_)
  refine op_call rfl rfl rfl (sortedD_has x.dirM (s.dir.map (·.1)) (fun k hk => ?_) (by have := hd.few; simp; omega)) ?_
  · have hm := (at2_isSome hd k).1 hk
    refine ⟨hm, ?_⟩
    obtain ⟨q, hq, rfl⟩ := List.mem_map.1 hm
    have := (hd.name q hq).1
    unfold maxLen; omega
  rintro v w1 ⟨hc1, ss, hn, hs, ho, hfr⟩
  have hp : ss.Perm (s.dir.map (·.1)) := (List.perm_ext_iff_of_nodup hn hd.up.nodup).2 fun k => by rw [hs, at2_isSome hd]
  rw [sorted_eq hp hd.up] at ho
  have hlen : ss.length = s.dir.length := by rw [hp.length_eq, List.length_map]
  rw [hlen] at ho
  repeat (first | refine W_ret ?_ | refine Then_n ?_ | refine WL_nil ?_ | refine WL_some rfl rfl rfl ?_ | refine op_assign rfl rfl ?_)
  exact post1 (.inl rfl) rfl rfl ⟨hc1, ho, hfr⟩

theorem calls_has (g : Nat) (s : FsM) (p : FsP) (w : World) (x : FsAt w g s p) : Has Go.Proofs.Tryz.prog 14 #[ptrV g] w (fun v w' => w' = w ∧ v = .int .i64 s.calls) := by
  refine enter Go.Proofs.Tryz.func14 rfl rfl (by decide) rfl (e := [(0, ptrV g)]) ⟨rfl, trivial⟩ ?_
  unfold ptrV
  have hb := x.blk
  repeat (first | refine W_seq ?_ | refine W_region ?_ | refine W_skip ?_ | refine W_ret ?_ | refine Then_n ?_ | refine WL_nil ?_ | refine W_condF rfl ?_ | refine WL_some rfl rfl rfl ?_ | refine op_move rfl rfl ?_ | refine op_assign rfl rfl ?_ | refine op_nilCheck rfl rfl ?_ | refine op_fieldAddr T rfl rfl rfl rfl rfl rfl rfl rfl ?_ | refine op_eql_nilptr T rfl rfl rfl rfl rfl ?_ | refine op_loadB T rfl rfl rfl rfl (by assumption) (by exact rfl) ?_)
  exact post1 (.inl rfl) rfl rfl ⟨rfl, rfl⟩
theorem fail_has (g : Nat) (s : FsM) (p : FsP) (n : Int) (w : World) (x : FsAt w g s p) (hn : n ≤ 9223372036854775807) : Has Go.Proofs.Tryz.prog 37 #[ptrV g, .int .i64 n] w (fun v w' => Chg [g] w w' ∧ FsAt w' g { s with fail := max n (-1) } p) := by
  refine enter Go.Proofs.Tryz.func37 rfl rfl (by decide) rfl (e := [(0, ptrV g), (1, .int .i64 n)]) ⟨rfl, rfl, trivial⟩ ?_
  unfold ptrV
  have hb := x.blk
  repeat (first | refine W_seq ?_ | refine W_region ?_ | refine Then_n ?_ | refine WL_nil ?_ | refine W_condT rfl ?_ | refine WL_some rfl rfl rfl ?_ | refine WL_none rfl rfl ?_ | refine op_move rfl rfl ?_ | refine op_max rfl rfl rfl ?_ | refine op_nilCheck rfl rfl ?_ | refine op_fieldAddr T rfl rfl rfl rfl rfl rfl rfl rfl ?_ | refine op_neq_nilptr T rfl rfl rfl rfl rfl ?_)
  refine op_store T rfl rfl rfl rfl rfl rfl hb (Nat.le_of_ble_eq_true rfl) (fun w1 hc1 hb1 _ => ?_)
  repeat (refine WL_nil ?_)
  exact post0 (.inr rfl) rfl ⟨hc1, x.scalars hc1 hb1 (failM_ok x.ok n hn)⟩
theorem newFs_has (n : Int) (w : World) : Has Go.Proofs.Tryz.prog 18 #[.int .i64 n] w (fun v w' => Chg [] w w' ∧ ∃ g p, v = ptrV g ∧ FsAt w' g (newM n) p ∧ ∀ k ∈ p.fp g, w.heap.size ≤ k) := by
  refine enter Go.Proofs.Tryz.func18 rfl rfl (by decide) rfl (e := [(0, .int .i64 n)]) ⟨rfl, trivial⟩ ?_
  repeat (first | refine W_seq ?_ | refine W_region ?_ | refine Then_n ?_ | refine WL_nil ?_ | refine WL_some rfl rfl rfl ?_ | refine op_move rfl rfl ?_ | refine op_assign rfl rfl ?_)
  refine op_call rfl rfl rfl (room_has n w) ?_
  rintro _ w1 ⟨rfl, rfl⟩
  repeat (refine WL_some rfl rfl rfl ?_)
  refine op_makeMap keyV ptrV rfl (fun md w2 hs2 hc2 hm2 => ?_)
  repeat (refine WL_some rfl rfl rfl ?_)
  refine op_makeMap keyV ptrV rfl (fun ml w3 hs3 hc3 hm3 => ?_)
  repeat (first | refine WL_some rfl rfl rfl ?_ | refine op_build T rfl rfl rfl rfl rfl rfl ?_)
  refine op_box rfl rfl (fun g w4 hs4 hc4 hg4 => ?_)
  repeat (first | refine W_ret ?_ | refine Then_n ?_ | refine WL_nil ?_ | refine WL_some rfl rfl rfl ?_ | refine op_assign rfl rfl ?_)
  have hml := hm2.lt
  have h2 := hc2.size
  have h3 := hc3.size
  refine post1 (.inl rfl) rfl rfl ⟨(hc2.trans' hc3).trans' hc4, g, ⟨md, ml, .slice none 0 0, []⟩, rfl, ⟨newM_ok n, hg4, (hm2.keep0 (hc3.trans' hc4)).congr (fun k => rfl), (hm3.keep0 hc4).congr (fun k => rfl), Own.nil _ _ _, rfl, fun i q f h => by simp at h, fun i q f h => by simp at h, (show md ≠ ml by omega), List.nodup_nil, fun i j q q' h h1 => by simp at h1⟩, fun k hk => ?_⟩
  rcases FsP.mem_fp.1 hk with h | h | h | h | ⟨q, hq, h⟩
  · omega
  · have h : k = md := h
    omega
  · have h : k = ml := h
    omega
  · cases h
  · cases hq

/-- What a call leaves. -/
def FsDone (w : World) (g : Nat) (p : FsP) (r : FsM × Int) (v : Value) (w' : World) : Prop := Chg (p.fp g) w w' ∧ v = .int .i64 r.2 ∧ ∃ p', FsAt w' g r.1 p' ∧ Grows w g p p'
theorem mem_fp_self (p : FsP) (g : Nat) : g ∈ p.fp g := FsP.mem_fp.2 (.inl rfl)
theorem chg_self {w w' : World} {p : FsP} {g : Nat} (h : Chg [g] w w') : Chg (p.fp g) w w' := h.mono (fun k hk _ => by simp at hk; subst hk; exact mem_fp_self p k)

end Go.Proofs.YtiadjkjlifnopaaGreatDoor.Tryz
/-! Files: Create. -/
set_option linter.unusedVariables false
set_option linter.unusedSimpArgs false
namespace Go.Proofs.YtiadjkjlifnopaaGreatDoor.Tryz
open Go Go.Vc

set_option maxHeartbeats 8000000 in
theorem create_has (g : Nat) (s : FsM) (p : FsP) (k : Nm) (w : World) (x : FsAt w g s p) (hk : k.length ≤ maxLen) (hcalls : s.calls < 1000000000 - 1) :
    Has Go.Proofs.Tryz.prog 20 #[ptrV g, .string (str k)] w (FsDone w g p (createM s k)) := by
  refine enter Go.Proofs.Tryz.func20 rfl rfl (by decide) rfl (e := [(0, ptrV g), (1, .string (str k))]) ⟨rfl, rfl, trivial⟩ ?_
  unfold ptrV
  repeat (first | refine W_seq ?_ | refine W_region ?_ | refine Then_n ?_ | refine WL_nil ?_ | refine WL_some rfl rfl rfl ?_ | refine op_move rfl rfl ?_ | refine op_assign rfl rfl ?_)
  refine op_call rfl rfl rfl (call_has g s p w x (by omega)) ?_
  rintro _ w1 ⟨hc1, rfl, x1⟩
  have hcc : (callM s).calls < 1000000000 := by show s.calls + 1 < _; omega
  cases hfm : failsM s with
  | true =>
    have hr : createM s k = (callM s, 5) := by unfold createM; simp [hfm]
    rw [if_pos rfl]
    repeat (first | refine W_seq ?_ | refine W_region ?_ | refine W_ret ?_ | refine Then_n ?_ | refine Then_r ?_ | refine WL_nil ?_ | refine W_condT rfl ?_ | refine WL_some rfl rfl rfl ?_ | refine op_move rfl rfl ?_ | refine op_assign rfl rfl ?_ | refine op_neq rfl rfl rfl (fun hc => ?_) (fun hc => False.elim (by omega)))
    refine post1 (.inl rfl) rfl rfl ?_
    rw [hr]; exact ⟨chg_self hc1, rfl, p, x1, Grows.refl _ _ _⟩
  | false =>
  rw [if_neg (by simp)]
  repeat (first | refine W_seq ?_ | refine W_block ?_ | refine W_region ?_ | refine W_skip ?_ | refine Then_n ?_ | refine WL_nil ?_ | refine W_condF rfl ?_ | refine WL_some rfl rfl rfl ?_ | refine op_move rfl rfl ?_ | refine op_assign rfl rfl ?_ | refine op_neq rfl rfl rfl (fun hc => False.elim (by omega)) (fun hc => ?_))
  refine op_call rfl rfl rfl (may_has k w1 hk) ?_
  rintro _ w1 ⟨rfl, rfl⟩
  cases hmay : mayM k with
  | false =>
    have hr : createM s k = (callM s, 10) := by unfold createM; simp [hfm, hmay]
    repeat (first | refine W_seq ?_ | refine W_region ?_ | refine W_ret ?_ | refine Then_n ?_ | refine Then_r ?_ | refine InBlock_r ?_ | refine WL_nil ?_ | refine W_condT rfl ?_ | refine WL_some rfl rfl rfl ?_ | refine op_assign rfl rfl ?_ | refine op_notF rfl rfl ?_)
    refine post1 (.inl rfl) rfl rfl ?_
    rw [hr]; exact ⟨chg_self hc1, rfl, p, x1, Grows.refl _ _ _⟩
  | true =>
  have hb1 := x1.blk
  have hd1 := x1.dirOk
  have hend : ∀ w2, Chg [] w1 w2 → ((looks (callM s).dir k).isNone && decide (150 ≤ (callM s).dir.length)) = false →
      createM s k = (changeM { callM s with files := (callM s).files ++ [⟨[], 0⟩] } ⟨0, k, [], some (callM s).files.length⟩, 0) := fun w2 hc2 hn => by
    unfold createM
    simp only [hfm, hmay]
    rw [hn]
    simp
  have hok : ((looks (callM s).dir k).isNone && decide (150 ≤ (callM s).dir.length)) = false → FsOk (changeM { callM s with files := (callM s).files ++ [⟨[], 0⟩] } ⟨0, k, [], some (callM s).files.length⟩) := fun hn => by
    have := createM_ok x.ok k
    rw [hend w1 (Chg.refl _ _) hn] at this; exact this
  have hfile : FsOk { callM s with files := (callM s).files ++ [⟨[], 0⟩] } := by
    have h1 := x1.ok
    exact ⟨h1.room0, h1.room1, h1.calls0, h1.fail0, h1.fail1, fun f hf => by
      rcases List.mem_append.1 hf with hf | hf
      · exact h1.files f hf
      · simp at hf; subst hf; simp, h1.replay.more (by simp), h1.waits⟩
  cases hl : looks (callM s).dir k with
  | none =>
    repeat (first | refine W_seq ?_ | refine W_region ?_ | refine Then_n ?_ | refine WL_nil ?_ | refine W_condF rfl ?_ | refine WL_some rfl rfl rfl ?_ | refine op_move rfl rfl ?_ | refine op_assign rfl rfl ?_ | refine op_notT rfl rfl ?_ | refine op_nilCheck rfl rfl ?_ | refine op_fieldAddr T rfl rfl rfl rfl rfl rfl rfl rfl ?_ | refine op_loadB T rfl rfl rfl rfl (by assumption) (by exact rfl) ?_)
    refine op_lookup_v T strKey rfl rfl rfl rfl rfl rfl x1.dirM (v := .pointer none) (fun b hb => by rw [at2_none hl] at hb; cases hb) (fun _ => rfl) ?_
    repeat (first | refine WL_some rfl rfl rfl ?_ | refine WL_guardT rfl rfl rfl rfl ?_ | refine op_move rfl rfl ?_ | refine op_nilCheck rfl rfl ?_ | refine op_fieldAddr T rfl rfl rfl rfl rfl rfl rfl rfl ?_ | refine op_eql_nilptr T rfl rfl rfl rfl rfl ?_ | refine op_loadB T rfl rfl rfl rfl (by assumption) (by exact rfl) ?_)
    refine op_len_map T strKey (ks := (callM s).dir.map (·.1)) rfl rfl rfl rfl x1.dirM hd1.up.nodup (fun k' => (at2_isSome hd1 k').symm) ?_
    rw [List.length_map]
    by_cases hfull : 150 ≤ (callM s).dir.length
    · have hr : createM s k = (callM s, 4) := by unfold createM; simp [hfm, hmay, hl, hfull]
      repeat (first | refine W_seq ?_ | refine W_region ?_ | refine W_ret ?_ | refine Then_n ?_ | refine Then_r ?_ | refine InBlock_r ?_ | refine WL_nil ?_ | refine W_condT rfl ?_ | refine WL_some rfl rfl rfl ?_ | refine WL_guardT rfl rfl rfl rfl ?_ | refine op_assign rfl rfl ?_ | refine op_pick rfl rfl rfl rfl ?_ | refine op_geq rfl rfl rfl (fun hc => ?_) (fun hc => False.elim (by omega)))
      refine post1 (.inl rfl) rfl rfl ?_
      rw [hr]; exact ⟨chg_self hc1, rfl, p, x1, Grows.refl _ _ _⟩
    have hn : ((looks (callM s).dir k).isNone && decide (150 ≤ (callM s).dir.length)) = false := by simp [hfull]
    rw [hend w1 (Chg.refl _ _) hn]
    have hok := hok hn
    repeat (first | refine W_seq ?_ | refine W_region ?_ | refine W_skip ?_ | refine Then_n ?_ | refine InBlock_n ?_ | refine WL_nil ?_ | refine W_condF rfl ?_ | refine WL_some rfl rfl rfl ?_ | refine WL_guardT rfl rfl rfl rfl ?_ | refine op_move rfl rfl ?_ | refine op_assign rfl rfl ?_ | refine op_pick rfl rfl rfl rfl ?_ | refine op_geq rfl rfl rfl (fun hc => False.elim (by omega)) (fun hc => ?_) | refine op_build T rfl rfl rfl rfl rfl rfl ?_)
    refine op_box rfl rfl (fun gf w2 hs2 hc2 hg2 => ?_)
    have x2 := (x1.keep0 hc2).addFile hg2 (fun hm => by have := x1.lt gf hm; omega) hfile
    have hid : idV (p.fb ++ [(gf, Value.slice none 0 0)]) (some (callM s).files.length) = ptrV gf := idV_some (i := (callM s).files.length) (q := (gf, .slice none 0 0)) rfl (by rw [← x1.len]; simp)
    have hcv : chV (p.fb ++ [(gf, Value.slice none 0 0)]) ⟨0, k, [], some (callM s).files.length⟩ = [.int .i64 ((0 : Nat) : Int), .string (str k), .string (str []), .pointer (some ⟨gf, 0, none⟩)] := by unfold chV; rw [hid]; rfl
    repeat (first | refine WL_some rfl rfl rfl ?_ | refine op_build T rfl rfl rfl rfl rfl rfl ?_)
    have hcall := change_has g _ _ ⟨0, k, [], some (callM s).files.length⟩ w2 x2 ⟨fun _ => by simp, fun e => by simp at e⟩ (fun i hi => by simp at hi; subst hi; simp) hok hcc
    rw [hcv] at hcall
    refine op_call rfl rfl rfl hcall ?_
    rintro _ w3 ⟨hc3, rfl, wv', x3, hgr⟩
    repeat (first | refine W_ret ?_ | refine Then_n ?_ | refine WL_nil ?_ | refine WL_some rfl rfl rfl ?_ | refine op_assign rfl rfl ?_)
    have hg2 : Grows w g p { p with fb := p.fb ++ [(gf, Value.slice none 0 0)] } := fun j hj => by
      rcases FsP.mem_fp.1 hj with h | h | h | h | ⟨q, hq, h⟩
      · exact .inl (FsP.mem_fp.2 (.inl h))
      · exact .inl (FsP.mem_fp.2 (.inr (.inl h)))
      · exact .inl (FsP.mem_fp.2 (.inr (.inr (.inl h))))
      · exact .inl (FsP.mem_fp.2 (.inr (.inr (.inr (.inl h)))))
      · rcases List.mem_append.1 hq with hq | hq
        · exact .inl (FsP.mem_fp.2 (.inr (.inr (.inr (.inr ⟨q, hq, h⟩)))))
        · simp at hq
          subst hq
          rcases h with rfl | h
          · exact .inr (by have := hc1.size; omega)
          · cases h
    have hc02 := (chg_self (p := p) hc1).trans' hc2
    exact post1 (.inl rfl) rfl rfl ⟨hc02.fps hg2 hc3, rfl, _, x3, hg2.trans hgr hc02.size⟩
  | some i =>
    obtain ⟨q, f, hq, hfi⟩ := x1.get hl
    repeat (first | refine W_seq ?_ | refine W_region ?_ | refine Then_n ?_ | refine WL_nil ?_ | refine W_condF rfl ?_ | refine WL_some rfl rfl rfl ?_ | refine op_move rfl rfl ?_ | refine op_assign rfl rfl ?_ | refine op_notT rfl rfl ?_ | refine op_nilCheck rfl rfl ?_ | refine op_fieldAddr T rfl rfl rfl rfl rfl rfl rfl rfl ?_ | refine op_loadB T rfl rfl rfl rfl (by assumption) (by exact rfl) ?_)
    refine op_lookup_v T strKey rfl rfl rfl rfl rfl rfl x1.dirM (v := ptrV q.1) (fun b hb => by rw [at2_some hl hq] at hb; injection hb with hb; rw [hb]) (fun hn => by rw [at2_some hl hq] at hn; cases hn) ?_
    unfold ptrV
    have hn : ((looks (callM s).dir k).isNone && decide (150 ≤ (callM s).dir.length)) = false := by simp [hl]
    rw [hend w1 (Chg.refl _ _) hn]
    have hok := hok hn
    repeat (first | refine W_seq ?_ | refine W_region ?_ | refine W_skip ?_ | refine Then_n ?_ | refine InBlock_n ?_ | refine WL_nil ?_ | refine W_condF rfl ?_ | refine WL_some rfl rfl rfl ?_ | refine WL_guardF rfl rfl rfl rfl rfl ?_ | refine op_move rfl rfl ?_ | refine op_assign rfl rfl ?_ | refine op_pick rfl rfl rfl rfl ?_ | refine op_eql_nilptr T rfl rfl rfl rfl rfl ?_ | refine op_build T rfl rfl rfl rfl rfl rfl ?_)
    refine op_box rfl rfl (fun gf w2 hs2 hc2 hg2 => ?_)
    have x2 := (x1.keep0 hc2).addFile hg2 (fun hm => by have := x1.lt gf hm; omega) hfile
    have hid : idV (p.fb ++ [(gf, Value.slice none 0 0)]) (some (callM s).files.length) = ptrV gf := idV_some (i := (callM s).files.length) (q := (gf, .slice none 0 0)) rfl (by rw [← x1.len]; simp)
    have hcv : chV (p.fb ++ [(gf, Value.slice none 0 0)]) ⟨0, k, [], some (callM s).files.length⟩ = [.int .i64 ((0 : Nat) : Int), .string (str k), .string (str []), .pointer (some ⟨gf, 0, none⟩)] := by unfold chV; rw [hid]; rfl
    repeat (first | refine WL_some rfl rfl rfl ?_ | refine op_build T rfl rfl rfl rfl rfl rfl ?_)
    have hcall := change_has g _ _ ⟨0, k, [], some (callM s).files.length⟩ w2 x2 ⟨fun _ => by simp, fun e => by simp at e⟩ (fun i hi => by simp at hi; subst hi; simp) hok hcc
    rw [hcv] at hcall
    refine op_call rfl rfl rfl hcall ?_
    rintro _ w3 ⟨hc3, rfl, wv', x3, hgr⟩
    repeat (first | refine W_ret ?_ | refine Then_n ?_ | refine WL_nil ?_ | refine WL_some rfl rfl rfl ?_ | refine op_assign rfl rfl ?_)
    have hg2 : Grows w g p { p with fb := p.fb ++ [(gf, Value.slice none 0 0)] } := fun j hj => by
      rcases FsP.mem_fp.1 hj with h | h | h | h | ⟨q, hq, h⟩
      · exact .inl (FsP.mem_fp.2 (.inl h))
      · exact .inl (FsP.mem_fp.2 (.inr (.inl h)))
      · exact .inl (FsP.mem_fp.2 (.inr (.inr (.inl h))))
      · exact .inl (FsP.mem_fp.2 (.inr (.inr (.inr (.inl h)))))
      · rcases List.mem_append.1 hq with hq | hq
        · exact .inl (FsP.mem_fp.2 (.inr (.inr (.inr (.inr ⟨q, hq, h⟩)))))
        · simp at hq
          subst hq
          rcases h with rfl | h
          · exact .inr (by have := hc1.size; omega)
          · cases h
    have hc02 := (chg_self (p := p) hc1).trans' hc2
    exact post1 (.inl rfl) rfl rfl ⟨hc02.fps hg2 hc3, rfl, _, x3, hg2.trans hgr hc02.size⟩
end Go.Proofs.YtiadjkjlifnopaaGreatDoor.Tryz
/-! Files: Rename, Remove, SyncDir. -/
set_option linter.unusedVariables false
set_option linter.unusedSimpArgs false
namespace Go.Proofs.YtiadjkjlifnopaaGreatDoor.Tryz
open Go Go.Vc

set_option maxHeartbeats 4000000 in
theorem rename_has (g : Nat) (s : FsM) (p : FsP) (k k' : Nm) (w : World) (x : FsAt w g s p) (hk : k'.length ≤ maxLen) (hcalls : s.calls < 1000000000 - 1) :
    Has Go.Proofs.Tryz.prog 93 #[ptrV g, .string (str k), .string (str k')] w (FsDone w g p (renameM s k k')) := by
  refine enter Go.Proofs.Tryz.func93 rfl rfl (by decide) rfl (e := [(0, ptrV g), (1, .string (str k)), (2, .string (str k'))]) ⟨rfl, rfl, rfl, trivial⟩ ?_
  unfold ptrV
  repeat (first | refine W_seq ?_ | refine W_region ?_ | refine Then_n ?_ | refine WL_nil ?_ | refine WL_some rfl rfl rfl ?_ | refine op_move rfl rfl ?_ | refine op_assign rfl rfl ?_)
  refine op_call rfl rfl rfl (call_has g s p w x (by omega)) ?_
  rintro _ w1 ⟨hc1, rfl, x1⟩
  have hcc : (callM s).calls < 1000000000 := by show s.calls + 1 < _; omega
  cases hfm : failsM s with
  | true =>
    have hr : renameM s k k' = (callM s, 5) := by unfold renameM; simp [hfm]
    rw [if_pos rfl]
    repeat (first | refine W_seq ?_ | refine W_region ?_ | refine W_ret ?_ | refine Then_n ?_ | refine Then_r ?_ | refine WL_nil ?_ | refine W_condT rfl ?_ | refine WL_some rfl rfl rfl ?_ | refine op_move rfl rfl ?_ | refine op_assign rfl rfl ?_ | refine op_neq rfl rfl rfl (fun hc => ?_) (fun hc => False.elim (by omega)))
    refine post1 (.inl rfl) rfl rfl ?_
    rw [hr]; exact ⟨chg_self hc1, rfl, p, x1, Grows.refl _ _ _⟩
  | false =>
  rw [if_neg (by simp)]
  have hb1 := x1.blk
  cases hl : looks (callM s).dir k with
  | none =>
    have hr : renameM s k k' = (callM s, 3) := by unfold renameM; simp [hfm, hl]
    repeat (first | refine W_seq ?_ | refine W_block ?_ | refine W_region ?_ | refine W_skip ?_ | refine Then_n ?_ | refine WL_nil ?_ | refine W_condF rfl ?_ | refine WL_some rfl rfl rfl ?_ | refine op_move rfl rfl ?_ | refine op_assign rfl rfl ?_ | refine op_nilCheck rfl rfl ?_ | refine op_neq rfl rfl rfl (fun hc => False.elim (by omega)) (fun hc => ?_) | refine op_fieldAddr T rfl rfl rfl rfl rfl rfl rfl rfl ?_ | refine op_loadB T rfl rfl rfl rfl (by assumption) (by exact rfl) ?_)
    refine op_lookup_v T strKey rfl rfl rfl rfl rfl rfl x1.dirM (v := .pointer none) (fun b hb => by rw [at2_none hl] at hb; cases hb) (fun _ => rfl) ?_
    repeat (first | refine W_seq ?_ | refine W_region ?_ | refine W_ret ?_ | refine Then_n ?_ | refine Then_r ?_ | refine InBlock_r ?_ | refine WL_nil ?_ | refine W_condT rfl ?_ | refine WL_some rfl rfl rfl ?_ | refine op_assign rfl rfl ?_ | refine op_eql_nilptr T rfl rfl rfl rfl rfl ?_)
    refine post1 (.inl rfl) rfl rfl ?_
    rw [hr]; exact ⟨chg_self hc1, rfl, p, x1, Grows.refl _ _ _⟩
  | some i =>
  obtain ⟨q, f, hq, hfi⟩ := x1.get hl
  repeat (first | refine W_seq ?_ | refine W_block ?_ | refine W_region ?_ | refine W_skip ?_ | refine Then_n ?_ | refine WL_nil ?_ | refine W_condF rfl ?_ | refine WL_some rfl rfl rfl ?_ | refine op_move rfl rfl ?_ | refine op_assign rfl rfl ?_ | refine op_nilCheck rfl rfl ?_ | refine op_neq rfl rfl rfl (fun hc => False.elim (by omega)) (fun hc => ?_) | refine op_fieldAddr T rfl rfl rfl rfl rfl rfl rfl rfl ?_ | refine op_loadB T rfl rfl rfl rfl (by assumption) (by exact rfl) ?_)
  refine op_lookup_v T strKey rfl rfl rfl rfl rfl rfl x1.dirM (v := ptrV q.1) (fun b hb => by rw [at2_some hl hq] at hb; injection hb with hb; rw [hb]) (fun hn => by rw [at2_some hl hq] at hn; cases hn) ?_
  unfold ptrV
  repeat (first | refine W_seq ?_ | refine W_region ?_ | refine Then_n ?_ | refine WL_nil ?_ | refine W_condF rfl ?_ | refine WL_some rfl rfl rfl ?_ | refine op_move rfl rfl ?_ | refine op_assign rfl rfl ?_ | refine op_eql_nilptr T rfl rfl rfl rfl rfl ?_)
  refine op_call rfl rfl rfl (may_has k' w1 hk) ?_
  rintro _ w1 ⟨rfl, rfl⟩
  cases hmay : mayM k' with
  | false =>
    have hr : renameM s k k' = (callM s, 10) := by unfold renameM; simp [hfm, hl, hmay]
    repeat (first | refine W_seq ?_ | refine W_region ?_ | refine W_ret ?_ | refine Then_n ?_ | refine Then_r ?_ | refine InBlock_r ?_ | refine WL_nil ?_ | refine W_condT rfl ?_ | refine WL_some rfl rfl rfl ?_ | refine op_assign rfl rfl ?_ | refine op_notF rfl rfl ?_)
    refine post1 (.inl rfl) rfl rfl ?_
    rw [hr]; exact ⟨chg_self hc1, rfl, p, x1, Grows.refl _ _ _⟩
  | true =>
  have hr : renameM s k k' = (changeM (callM s) ⟨1, k, k', none⟩, 0) := by unfold renameM; simp [hfm, hl, hmay]
  have hok := renameM_ok x.ok k k'
  rw [hr] at hok
  have hcv : chV p.fb ⟨1, k, k', none⟩ = [.int .i64 ((1 : Nat) : Int), .string (str k), .string (str k'), .pointer none] := rfl
  have hcall := change_has g _ _ ⟨1, k, k', none⟩ w1 x1 ⟨fun e => by simp at e, fun _ => by simp [hl]⟩ (fun i hi => by cases hi) hok hcc
  rw [hcv] at hcall
  repeat (first | refine W_seq ?_ | refine W_region ?_ | refine W_skip ?_ | refine Then_n ?_ | refine InBlock_n ?_ | refine WL_nil ?_ | refine W_condF rfl ?_ | refine WL_some rfl rfl rfl ?_ | refine op_move rfl rfl ?_ | refine op_assign rfl rfl ?_ | refine op_notT rfl rfl ?_ | refine op_build T rfl rfl rfl rfl rfl rfl ?_)
  refine op_call rfl rfl rfl hcall ?_
  rintro _ w2 ⟨hc2, rfl, wv', x2, hgr⟩
  repeat (first | refine W_ret ?_ | refine Then_n ?_ | refine WL_nil ?_ | refine WL_some rfl rfl rfl ?_ | refine op_assign rfl rfl ?_)
  refine post1 (.inl rfl) rfl rfl ?_
  rw [hr]
  exact ⟨(chg_self hc1).fps (Grows.refl _ _ _) hc2, rfl, _, x2, (Grows.refl _ _ _).trans hgr hc1.size⟩

set_option maxHeartbeats 4000000 in
theorem remove_has (g : Nat) (s : FsM) (p : FsP) (k : Nm) (w : World) (x : FsAt w g s p) (hcalls : s.calls < 1000000000 - 1) :
    Has Go.Proofs.Tryz.prog 129 #[ptrV g, .string (str k)] w (FsDone w g p (removeM s k)) := by
  refine enter Go.Proofs.Tryz.func129 rfl rfl (by decide) rfl (e := [(0, ptrV g), (1, .string (str k))]) ⟨rfl, rfl, trivial⟩ ?_
  unfold ptrV
  repeat (first | refine W_seq ?_ | refine W_region ?_ | refine Then_n ?_ | refine WL_nil ?_ | refine WL_some rfl rfl rfl ?_ | refine op_move rfl rfl ?_ | refine op_assign rfl rfl ?_)
  refine op_call rfl rfl rfl (call_has g s p w x (by omega)) ?_
  rintro _ w1 ⟨hc1, rfl, x1⟩
  have hcc : (callM s).calls < 1000000000 := by show s.calls + 1 < _; omega
  cases hfm : failsM s with
  | true =>
    have hr : removeM s k = (callM s, 5) := by unfold removeM; simp [hfm]
    rw [if_pos rfl]
    repeat (first | refine W_seq ?_ | refine W_region ?_ | refine W_ret ?_ | refine Then_n ?_ | refine Then_r ?_ | refine WL_nil ?_ | refine W_condT rfl ?_ | refine WL_some rfl rfl rfl ?_ | refine op_move rfl rfl ?_ | refine op_assign rfl rfl ?_ | refine op_neq rfl rfl rfl (fun hc => ?_) (fun hc => False.elim (by omega)))
    refine post1 (.inl rfl) rfl rfl ?_
    rw [hr]; exact ⟨chg_self hc1, rfl, p, x1, Grows.refl _ _ _⟩
  | false =>
  rw [if_neg (by simp)]
  have hb1 := x1.blk
  cases hl : looks (callM s).dir k with
  | none =>
    have hr : removeM s k = (callM s, 3) := by unfold removeM; simp [hfm, hl]
    repeat (first | refine W_seq ?_ | refine W_region ?_ | refine W_skip ?_ | refine Then_n ?_ | refine WL_nil ?_ | refine W_condF rfl ?_ | refine WL_some rfl rfl rfl ?_ | refine op_move rfl rfl ?_ | refine op_assign rfl rfl ?_ | refine op_nilCheck rfl rfl ?_ | refine op_neq rfl rfl rfl (fun hc => False.elim (by omega)) (fun hc => ?_) | refine op_fieldAddr T rfl rfl rfl rfl rfl rfl rfl rfl ?_ | refine op_loadB T rfl rfl rfl rfl (by assumption) (by exact rfl) ?_)
    refine op_lookup_v T strKey rfl rfl rfl rfl rfl rfl x1.dirM (v := .pointer none) (fun b hb => by rw [at2_none hl] at hb; cases hb) (fun _ => rfl) ?_
    repeat (first | refine W_seq ?_ | refine W_region ?_ | refine W_ret ?_ | refine Then_n ?_ | refine Then_r ?_ | refine WL_nil ?_ | refine W_condT rfl ?_ | refine WL_some rfl rfl rfl ?_ | refine op_assign rfl rfl ?_ | refine op_eql_nilptr T rfl rfl rfl rfl rfl ?_)
    refine post1 (.inl rfl) rfl rfl ?_
    rw [hr]; exact ⟨chg_self hc1, rfl, p, x1, Grows.refl _ _ _⟩
  | some i =>
  obtain ⟨q, f, hq, hfi⟩ := x1.get hl
  repeat (first | refine W_seq ?_ | refine W_region ?_ | refine W_skip ?_ | refine Then_n ?_ | refine WL_nil ?_ | refine W_condF rfl ?_ | refine WL_some rfl rfl rfl ?_ | refine op_move rfl rfl ?_ | refine op_assign rfl rfl ?_ | refine op_nilCheck rfl rfl ?_ | refine op_neq rfl rfl rfl (fun hc => False.elim (by omega)) (fun hc => ?_) | refine op_fieldAddr T rfl rfl rfl rfl rfl rfl rfl rfl ?_ | refine op_loadB T rfl rfl rfl rfl (by assumption) (by exact rfl) ?_)
  refine op_lookup_v T strKey rfl rfl rfl rfl rfl rfl x1.dirM (v := ptrV q.1) (fun b hb => by rw [at2_some hl hq] at hb; injection hb with hb; rw [hb]) (fun hn => by rw [at2_some hl hq] at hn; cases hn) ?_
  unfold ptrV
  have hr : removeM s k = (changeM (callM s) ⟨2, k, [], none⟩, 0) := by unfold removeM; simp [hfm, hl]
  have hok := removeM_ok x.ok k
  rw [hr] at hok
  have hcv : chV p.fb ⟨2, k, [], none⟩ = [.int .i64 ((2 : Nat) : Int), .string (str k), .string (str []), .pointer none] := rfl
  have hcall := change_has g _ _ ⟨2, k, [], none⟩ w1 x1 ⟨fun e => by simp at e, fun e => by simp at e⟩ (fun i hi => by cases hi) hok hcc
  rw [hcv] at hcall
  repeat (first | refine W_seq ?_ | refine W_region ?_ | refine W_skip ?_ | refine Then_n ?_ | refine WL_nil ?_ | refine W_condF rfl ?_ | refine WL_some rfl rfl rfl ?_ | refine op_move rfl rfl ?_ | refine op_eql_nilptr T rfl rfl rfl rfl rfl ?_ | refine op_build T rfl rfl rfl rfl rfl rfl ?_)
  refine op_call rfl rfl rfl hcall ?_
  rintro _ w2 ⟨hc2, rfl, wv', x2, hgr⟩
  repeat (first | refine W_ret ?_ | refine Then_n ?_ | refine WL_nil ?_ | refine WL_some rfl rfl rfl ?_ | refine op_assign rfl rfl ?_)
  refine post1 (.inl rfl) rfl rfl ?_
  rw [hr]
  exact ⟨(chg_self hc1).fps (Grows.refl _ _ _) hc2, rfl, _, x2, (Grows.refl _ _ _).trans hgr hc1.size⟩

/-- The lasting directory is now a copy of the one that is. -/
theorem FsAt.syncD {w w' : World} {g : Nat} {s : FsM} {p : FsP} (x : FsAt w g s p) (hc : Chg [g] w w') {ml : Nat} (hb : Blk w' g 86 [.int .i64 s.room, .map (some p.md), .map (some ml), .slice none 0 0, .int .i64 s.calls, .int .i64 s.fail])
    (hm : MapAt keyV ptrV w' ml (at2 p.fb s.dir)) (hne : p.md ≠ ml) (hok : FsOk { s with lasts := s.dir, waits := [] }) : FsAt w' g { s with lasts := s.dir, waits := [] } { p with ml := ml, wv := .slice none 0 0 } := by
  have hrow : ∀ k t cs, Blk w k t cs → t ≠ 86 → k ∉ [g] := fun k t cs hk h1 hm => by
    simp at hm; subst hm
    exact hk.ne_ x.blk h1 rfl
  refine ⟨hok, hb, x.dirM.keep hc (by simpa using x.dirM.ne_blk x.blk), hm, Own.nil _ _ _, x.len, fun i q f hq hf => ?_, fun i q f hq hf => ?_, hne, x.apart2, x.apart3⟩
  · have h1 := x.fblk i q f hq hf
    exact h1.keep hc (hrow _ _ _ h1 (by decide))
  · refine (x.fown i q f hq hf).keep hc (fun h hh => ?_)
    obtain ⟨cur, hr⟩ := (x.fown i q f hq hf).row hh
    exact hrow _ _ _ hr (by decide)

set_option maxHeartbeats 2000000 in
theorem syncDir_has (g : Nat) (s : FsM) (p : FsP) (w : World) (x : FsAt w g s p) (hcalls : s.calls < 1000000000 - 1) :
    Has Go.Proofs.Tryz.prog 41 #[ptrV g] w (FsDone w g p (syncDirM s)) := by
  refine enter Go.Proofs.Tryz.func41 rfl rfl (by decide) rfl (e := [(0, ptrV g)]) ⟨rfl, trivial⟩ ?_
  unfold ptrV
  repeat (first | refine W_seq ?_ | refine W_region ?_ | refine Then_n ?_ | refine WL_nil ?_ | refine WL_some rfl rfl rfl ?_ | refine op_move rfl rfl ?_ | refine op_assign rfl rfl ?_)
  refine op_call rfl rfl rfl (call_has g s p w x (by omega)) ?_
  rintro _ w1 ⟨hc1, rfl, x1⟩
  cases hfm : failsM s with
  | true =>
    have hr : syncDirM s = (callM s, 5) := by unfold syncDirM; simp [hfm]
    rw [if_pos rfl]
    repeat (first | refine W_seq ?_ | refine W_region ?_ | refine W_ret ?_ | refine Then_n ?_ | refine Then_r ?_ | refine WL_nil ?_ | refine W_condT rfl ?_ | refine WL_some rfl rfl rfl ?_ | refine op_move rfl rfl ?_ | refine op_assign rfl rfl ?_ | refine op_neq rfl rfl rfl (fun hc => ?_) (fun hc => False.elim (by omega)))
    refine post1 (.inl rfl) rfl rfl ?_
    rw [hr]; exact ⟨chg_self hc1, rfl, p, x1, Grows.refl _ _ _⟩
  | false =>
  rw [if_neg (by simp)]
  have hb1 := x1.blk
  have hr : syncDirM s = ({ callM s with lasts := (callM s).dir, waits := [] }, 0) := by unfold syncDirM; simp [hfm]
  have hok := syncDirM_ok x.ok
  rw [hr] at hok
  repeat (first | refine W_seq ?_ | refine W_region ?_ | refine W_skip ?_ | refine Then_n ?_ | refine WL_nil ?_ | refine W_condF rfl ?_ | refine WL_some rfl rfl rfl ?_ | refine op_move rfl rfl ?_ | refine op_assign rfl rfl ?_ | refine op_nilCheck rfl rfl ?_ | refine op_neq rfl rfl rfl (fun hc => False.elim (by omega)) (fun hc => ?_) | refine op_fieldAddr T rfl rfl rfl rfl rfl rfl rfl rfl ?_ | refine op_loadB T rfl rfl rfl rfl (by assumption) (by exact rfl) ?_)
  refine op_call rfl rfl rfl (cloneD_has x1.dirM) ?_
  rintro _ w2 ⟨ml, rfl, hml, hc2, hm2⟩
  have x2 := x1.keep0 hc2
  have hb2 := x2.blk
  repeat (first | refine WL_some rfl rfl rfl ?_ | refine WL_none rfl rfl ?_ | refine op_nilCheck rfl rfl ?_ | refine op_fieldAddr T rfl rfl rfl rfl rfl rfl rfl rfl ?_)
  refine op_store T rfl rfl rfl rfl rfl rfl hb2 (Nat.le_of_ble_eq_true rfl) (fun w3 hc3 hb3 _ => ?_)
  have hb3 : Blk w3 g 86 [.int .i64 (callM s).room, .map (some p.md), .map (some ml), p.wv, .int .i64 (callM s).calls, .int .i64 (callM s).fail] := hb3
  repeat (first | refine WL_some rfl rfl rfl ?_ | refine WL_none rfl rfl ?_ | refine op_nilCheck rfl rfl ?_ | refine op_fieldAddr T rfl rfl rfl rfl rfl rfl rfl rfl ?_)
  refine op_store T rfl rfl rfl rfl rfl rfl hb3 (Nat.le_of_ble_eq_true rfl) (fun w4 hc4 hb4 _ => ?_)
  have hb4 : Blk w4 g 86 [.int .i64 (callM s).room, .map (some p.md), .map (some ml), .slice none 0 0, .int .i64 (callM s).calls, .int .i64 (callM s).fail] := hb4
  repeat (first | refine W_seq ?_ | refine W_region ?_ | refine W_ret ?_ | refine Then_n ?_ | refine WL_nil ?_ | refine WL_some rfl rfl rfl ?_ | refine op_assign rfl rfl ?_)
  have hc24 : Chg [g] w2 w4 := hc3.trans hc4 (fun _ h _ => h)
  have hmd := x1.dirM.lt
  have x4 := x2.syncD hc24 hb4 (hm2.keep hc24 (by simpa using hm2.ne_blk hb2)) (by omega) hok
  refine post1 (.inl rfl) rfl rfl ?_
  rw [hr]
  refine ⟨chg_self ((hc1.trans' hc2).trans hc24 (fun _ h _ => h)), rfl, _, x4, fun k hk => ?_⟩
  rcases FsP.mem_fp.1 hk with h | h | h | h | h
  · exact .inl (FsP.mem_fp.2 (.inl h))
  · exact .inl (FsP.mem_fp.2 (.inr (.inl h)))
  · have h : k = ml := h
    exact .inr (by have := hc1.size; omega)
  · cases h
  · exact .inl (FsP.mem_fp.2 (.inr (.inr (.inr (.inr h)))))
end Go.Proofs.YtiadjkjlifnopaaGreatDoor.Tryz
/-! Files: Sync, Append, Read. -/
set_option linter.unusedVariables false
set_option linter.unusedSimpArgs false
namespace Go.Vc
open Go
theorem at2_fst {fb fb' : List (Nat × Value)} (h : ∀ i : Nat, (fb'[i]?).map (·.1) = (fb[i]?).map (·.1)) (d : Dir) (k : Nm) : at2 fb' d k = at2 fb d k := by
  unfold at2; simp only [h]
theorem chV_fst {fb fb' : List (Nat × Value)} (h : ∀ i : Nat, (fb'[i]?).map (·.1) = (fb[i]?).map (·.1)) (c : ChM) : chV fb' c = chV fb c := by
  unfold chV idV; simp only [h]
theorem set_fst {fb : List (Nat × Value)} {i : Nat} {q : Nat × Value} (hq : fb[i]? = some q) (v : Value) (j : Nat) : ((fb.set i (q.1, v))[j]?).map (·.1) = (fb[j]?).map (·.1) := by
  rw [List.getElem?_set]
  by_cases h : i = j
  · subst h
    obtain ⟨h1, h2⟩ := List.getElem?_eq_some_iff.1 hq
    rw [if_pos rfl, if_pos h1, hq]; rfl
  · rw [if_neg h]
end Go.Vc
namespace Go.Proofs.YtiadjkjlifnopaaGreatDoor.Tryz
open Go Go.Vc

/-- One file's bytes, and how many of them are synced, have turned. -/
theorem FsAt.setFile {w w' : World} {g : Nat} {s : FsM} {p : FsP} {S : List Nat} (x : FsAt w g s p) {i : Nat} {q : Nat × Value} {f : FileM} (hq : p.fb[i]? = some q) (hf : s.files[i]? = some f) (gg : FileM → FileM) {v' : Value} (hc : Chg S w w')
    (hS : ∀ k ∈ S, k < w.heap.size → k = q.1 ∨ q.2.ownBlock = some k) (hb : Blk w' q.1 106 [v', .int .i64 (gg f).synced]) (ho : Own w' 5 1 v' (gg f).b.length (u8s (gg f).b))
    (hv : v'.ownBlock = q.2.ownBlock ∨ ∃ h, v'.ownBlock = some h ∧ w.heap.size ≤ h) (hok : FsOk { s with files := s.files.modify i gg }) :
    FsAt w' g { s with files := s.files.modify i gg } { p with fb := p.fb.set i (q.1, v') } ∧ Grows w g p { p with fb := p.fb.set i (q.1, v') } := by
  have hqb := x.fblk i q f hq hf
  have hc := hc.mono (S' := q.1 :: q.2.ownBlock.toList) (fun k hk hlt => by
    rcases hS k hk hlt with h | h
    · simp [h]
    · simp [h])
  have hil := (List.getElem?_eq_some_iff.1 hq).1
  have hnot : ∀ k, k < w.heap.size → k ≠ q.1 → q.2.ownBlock ≠ some k → k ∉ q.1 :: q.2.ownBlock.toList := fun k _ h1 h2 hm => by
    rcases List.mem_cons.1 hm with h | h
    · exact h1 h
    · exact h2 (by simpa using h)
  have hrow : ∀ k t cs, Blk w k t cs → t ≠ 106 → t ≠ 5 → k ∉ q.1 :: q.2.ownBlock.toList := fun k t cs hk h1 h2 => hnot k hk.lt (fun e => by subst e; exact hk.ne_ hqb h1 rfl) (fun e => by
    obtain ⟨cur, hr⟩ := (x.fown i q f hq hf).row e
    exact hk.ne_ hr h2 rfl)
  have hmap : ∀ (bv : Nat → Value) r ff, MapAt keyV bv w r ff → r ∉ q.1 :: q.2.ownBlock.toList := fun bv r ff hm => hnot r hm.lt (fun e => hm.ne_blk hqb e) (fun e => by
    obtain ⟨cur, hr⟩ := (x.fown i q f hq hf).row e
    exact hm.ne_blk hr rfl)
  have hfst := set_fst hq v'
  have hget : ∀ (j : Nat) q', (p.fb.set i (q.1, v'))[j]? = some q' → (j = i ∧ q' = (q.1, v')) ∨ (j ≠ i ∧ p.fb[j]? = some q') := fun j q' h => by
    rw [List.getElem?_set] at h
    by_cases e : i = j
    · subst e; rw [if_pos rfl, if_pos hil] at h; injection h with h; exact .inl ⟨rfl, h.symm⟩
    · rw [if_neg e] at h; exact .inr ⟨fun e' => e e'.symm, h⟩
  have hfile : ∀ (j : Nat) f', (s.files.modify i gg)[j]? = some f' → (j = i ∧ f' = gg f) ∨ (j ≠ i ∧ s.files[j]? = some f') := fun j f' h => by
    rw [List.getElem?_modify] at h
    by_cases e : i = j
    · subst e; simp [hf] at h; exact .inl ⟨rfl, h.symm⟩
    · simp [e] at h; exact .inr ⟨fun e' => e e'.symm, h⟩
  refine ⟨⟨hok, x.blk.keep hc (hrow _ _ _ x.blk (by decide) (by decide)), (x.dirM.keep hc (hmap _ _ _ x.dirM)).congr (fun k => (at2_fst hfst _ k).symm), (x.lastsM.keep hc (hmap _ _ _ x.lastsM)).congr (fun k => (at2_fst hfst _ k).symm), ?_, by simp [x.len], fun j q' f' h1 h2 => ?_, fun j q' f' h1 h2 => ?_, x.apart1, ?_, fun j j' q1 q2 h h1 h2 h3 h4 => ?_⟩, fun k hk => ?_⟩
  · show Own w' _ 4 p.wv s.waits.length (s.waits.flatMap (chV (p.fb.set i (q.1, v'))))
    rw [flatMap_congr' (g := chV p.fb) (fun c _ => chV_fst hfst c)]
    refine x.waitsM.keep hc (fun h hh => ?_)
    obtain ⟨cur, hr⟩ := x.waitsM.row hh
    exact hrow _ _ _ hr (by decide) (by decide)
  · rcases hget j q' h1 with ⟨rfl, rfl⟩ | ⟨hj, h1⟩
    · rcases hfile j f' h2 with ⟨_, rfl⟩ | ⟨h, _⟩
      · exact hb
      · exact absurd rfl h
    · rcases hfile j f' h2 with ⟨h, _⟩ | ⟨_, h2⟩
      · exact absurd h hj
      · have h5 := x.fblk j q' f' h1 h2
        refine h5.keep hc (hnot _ h5.lt (fun e => hj ?_) (fun e => ?_))
        · have hjl := (List.getElem?_eq_some_iff.1 h1).1
          refine (List.getElem?_inj (l := p.fb.map (·.1)) (by simpa using hjl) x.apart2).1 ?_
          rw [List.getElem?_map, List.getElem?_map, h1, hq]; simp [e]
        · obtain ⟨cur, hr⟩ := (x.fown i q f hq hf).row e
          exact h5.ne_ hr (by decide) rfl
  · rcases hget j q' h1 with ⟨rfl, rfl⟩ | ⟨hj, h1⟩
    · rcases hfile j f' h2 with ⟨_, rfl⟩ | ⟨h, _⟩
      · exact ho
      · exact absurd rfl h
    · rcases hfile j f' h2 with ⟨h, _⟩ | ⟨_, h2⟩
      · exact absurd h hj
      · have h5 := x.fown j q' f' h1 h2
        refine h5.keep hc (fun h hh => hnot _ (h5.lt hh) (fun e => ?_) (fun e => hj (x.apart3 j i q' q h h1 hq hh e)))
        obtain ⟨cur, hr⟩ := h5.row hh
        rw [e] at hr
        exact hqb.ne_ hr (by decide) rfl
  · have : (p.fb.set i (q.1, v')).map (·.1) = p.fb.map (·.1) := by
      apply List.ext_getElem?
      intro j
      rw [List.getElem?_map, List.getElem?_map]; exact hfst j
    show (List.map _ _).Nodup
    rw [this]; exact x.apart2
  · rcases hget j q1 h1 with ⟨rfl, rfl⟩ | ⟨hj, g1⟩
    · rcases hget j' q2 h2 with ⟨rfl, rfl⟩ | ⟨hj', g2⟩
      · rfl
      · have h3 : v'.ownBlock = some h := h3
        rcases hv with hv | ⟨h', hv, hge⟩
        · exact x.apart3 j j' q q2 h hq g2 (hv.symm.trans h3) h4
        · obtain ⟨f2, hf2⟩ : ∃ f2, s.files[j']? = some f2 := ⟨_, List.getElem?_eq_getElem (by rw [← x.len]; exact (List.getElem?_eq_some_iff.1 g2).1)⟩
          have := (x.fown j' q2 f2 g2 hf2).lt h4
          rw [h3] at hv; injection hv with hv; omega
    · rcases hget j' q2 h2 with ⟨rfl, rfl⟩ | ⟨hj', g2⟩
      · have h4 : v'.ownBlock = some h := h4
        rcases hv with hv | ⟨h', hv, hge⟩
        · exact x.apart3 j j' q1 q h g1 hq h3 (hv.symm.trans h4)
        · obtain ⟨f2, hf2⟩ : ∃ f2, s.files[j]? = some f2 := ⟨_, List.getElem?_eq_getElem (by rw [← x.len]; exact (List.getElem?_eq_some_iff.1 g1).1)⟩
          have := (x.fown j q1 f2 g1 hf2).lt h3
          rw [h4] at hv; injection hv with hv; omega
      · exact x.apart3 j j' q1 q2 h g1 g2 h3 h4
  · rcases FsP.mem_fp.1 hk with h | h | h | h | ⟨q', hq', h⟩
    · exact .inl (FsP.mem_fp.2 (.inl h))
    · exact .inl (FsP.mem_fp.2 (.inr (.inl h)))
    · exact .inl (FsP.mem_fp.2 (.inr (.inr (.inl h))))
    · exact .inl (FsP.mem_fp.2 (.inr (.inr (.inr (.inl h)))))
    · rcases List.mem_or_eq_of_mem_set hq' with hq' | rfl
      · exact .inl (FsP.mem_fp.2 (.inr (.inr (.inr (.inr ⟨q', hq', h⟩)))))
      · have hqm := List.mem_of_getElem? hq
        rcases h with h | h
        · exact .inl (FsP.mem_fp.2 (.inr (.inr (.inr (.inr ⟨q, hqm, .inl h⟩)))))
        · have h : v'.ownBlock = some k := h
          rcases hv with hv | ⟨h', hv, hge⟩
          · exact .inl (FsP.mem_fp.2 (.inr (.inr (.inr (.inr ⟨q, hqm, .inr (hv.symm.trans h)⟩)))))
          · rw [h] at hv; injection hv with hv; exact .inr (by omega)

theorem FsAt.mem_file {w : World} {g : Nat} {s : FsM} {p : FsP} (x : FsAt w g s p) {i : Nat} {q : Nat × Value} (hq : p.fb[i]? = some q) : q.1 ∈ p.fp g ∧ ∀ h, q.2.ownBlock = some h → h ∈ p.fp g :=
  ⟨FsP.mem_fp.2 (.inr (.inr (.inr (.inr ⟨q, List.mem_of_getElem? hq, .inl rfl⟩)))), fun h hh => FsP.mem_fp.2 (.inr (.inr (.inr (.inr ⟨q, List.mem_of_getElem? hq, .inr hh⟩))))⟩

set_option maxHeartbeats 2000000 in
theorem sync_has (g : Nat) (s : FsM) (p : FsP) (k : Nm) (w : World) (x : FsAt w g s p) (hcalls : s.calls < 1000000000 - 1) :
    Has Go.Proofs.Tryz.prog 40 #[ptrV g, .string (str k)] w (FsDone w g p (syncM s k)) := by
  refine enter Go.Proofs.Tryz.func40 rfl rfl (by decide) rfl (e := [(0, ptrV g), (1, .string (str k))]) ⟨rfl, rfl, trivial⟩ ?_
  unfold ptrV
  repeat (first | refine W_seq ?_ | refine W_region ?_ | refine Then_n ?_ | refine WL_nil ?_ | refine WL_some rfl rfl rfl ?_ | refine op_move rfl rfl ?_ | refine op_assign rfl rfl ?_)
  refine op_call rfl rfl rfl (call_has g s p w x (by omega)) ?_
  rintro _ w1 ⟨hc1, rfl, x1⟩
  cases hfm : failsM s with
  | true =>
    have hr : syncM s k = (callM s, 5) := by unfold syncM; simp [hfm]
    rw [if_pos rfl]
    repeat (first | refine W_seq ?_ | refine W_region ?_ | refine W_ret ?_ | refine Then_n ?_ | refine Then_r ?_ | refine WL_nil ?_ | refine W_condT rfl ?_ | refine WL_some rfl rfl rfl ?_ | refine op_move rfl rfl ?_ | refine op_assign rfl rfl ?_ | refine op_neq rfl rfl rfl (fun hc => ?_) (fun hc => False.elim (by omega)))
    refine post1 (.inl rfl) rfl rfl ?_
    rw [hr]; exact ⟨chg_self hc1, rfl, p, x1, Grows.refl _ _ _⟩
  | false =>
  rw [if_neg (by simp)]
  have hb1 := x1.blk
  cases hl : looks (callM s).dir k with
  | none =>
    have hr : syncM s k = (callM s, 3) := by unfold syncM; simp [hfm, hl]
    repeat (first | refine W_seq ?_ | refine W_region ?_ | refine W_skip ?_ | refine Then_n ?_ | refine WL_nil ?_ | refine W_condF rfl ?_ | refine WL_some rfl rfl rfl ?_ | refine op_move rfl rfl ?_ | refine op_assign rfl rfl ?_ | refine op_nilCheck rfl rfl ?_ | refine op_neq rfl rfl rfl (fun hc => False.elim (by omega)) (fun hc => ?_) | refine op_fieldAddr T rfl rfl rfl rfl rfl rfl rfl rfl ?_ | refine op_loadB T rfl rfl rfl rfl (by assumption) (by exact rfl) ?_)
    refine op_lookup_v T strKey rfl rfl rfl rfl rfl rfl x1.dirM (v := .pointer none) (fun b hb => by rw [at2_none hl] at hb; cases hb) (fun _ => rfl) ?_
    repeat (first | refine W_seq ?_ | refine W_region ?_ | refine W_ret ?_ | refine Then_n ?_ | refine Then_r ?_ | refine WL_nil ?_ | refine W_condT rfl ?_ | refine WL_some rfl rfl rfl ?_ | refine op_move rfl rfl ?_ | refine op_assign rfl rfl ?_ | refine op_eql_nilptr T rfl rfl rfl rfl rfl ?_)
    refine post1 (.inl rfl) rfl rfl ?_
    rw [hr]; exact ⟨chg_self hc1, rfl, p, x1, Grows.refl _ _ _⟩
  | some i =>
  obtain ⟨q, f, hq, hfi⟩ := x1.get hl
  have hr : syncM s k = ({ callM s with files := (callM s).files.modify i fun f => { f with synced := f.b.length } }, 0) := by unfold syncM; simp [hfm, hl]
  have hok := syncM_ok x.ok k
  rw [hr] at hok
  have hbf := x1.fblk i q f hq hfi
  have hof := x1.fown i q f hq hfi
  obtain ⟨A, c, hv, hv1, hv2⟩ := hof.form
  rw [hv] at hbf
  repeat (first | refine W_seq ?_ | refine W_region ?_ | refine W_skip ?_ | refine Then_n ?_ | refine WL_nil ?_ | refine W_condF rfl ?_ | refine WL_some rfl rfl rfl ?_ | refine op_move rfl rfl ?_ | refine op_assign rfl rfl ?_ | refine op_nilCheck rfl rfl ?_ | refine op_neq rfl rfl rfl (fun hc => False.elim (by omega)) (fun hc => ?_) | refine op_fieldAddr T rfl rfl rfl rfl rfl rfl rfl rfl ?_ | refine op_loadB T rfl rfl rfl rfl (by assumption) (by exact rfl) ?_)
  refine op_lookup_v T strKey rfl rfl rfl rfl rfl rfl x1.dirM (v := ptrV q.1) (fun b hb => by rw [at2_some hl hq] at hb; injection hb with hb; rw [hb]) (fun hn => by rw [at2_some hl hq] at hn; cases hn) ?_
  unfold ptrV
  repeat (first | refine W_seq ?_ | refine W_region ?_ | refine W_skip ?_ | refine Then_n ?_ | refine WL_nil ?_ | refine W_condF rfl ?_ | refine WL_some rfl rfl rfl ?_ | refine WL_none rfl rfl ?_ | refine op_move rfl rfl ?_ | refine op_assign rfl rfl ?_ | refine op_len_slice T rfl rfl rfl rfl ?_ | refine op_nilCheck rfl rfl ?_ | refine op_fieldAddr T rfl rfl rfl rfl rfl rfl rfl rfl ?_ | refine op_eql_nilptr T rfl rfl rfl rfl rfl ?_ | refine op_loadB T rfl rfl rfl rfl (by assumption) (by exact rfl) ?_)
  refine op_store T rfl rfl rfl rfl rfl rfl hbf (Nat.le_of_ble_eq_true rfl) (fun w2 hc2 hb2 _ => ?_)
  repeat (first | refine W_seq ?_ | refine W_region ?_ | refine W_ret ?_ | refine Then_n ?_ | refine WL_nil ?_ | refine WL_some rfl rfl rfl ?_ | refine op_assign rfl rfl ?_)
  have hb2 : Blk w2 q.1 106 [q.2, .int .i64 (f.b.length : Nat)] := by rw [hv]; exact hb2
  obtain ⟨x2, hg2⟩ := x1.setFile hq hfi (fun f => { f with synced := f.b.length }) (v' := q.2) hc2 (fun j hj _ => by simp at hj; exact .inl hj) hb2 (hof.keep hc2 (fun h hh hm => by
    simp at hm
    obtain ⟨cur, hr⟩ := hof.row hh
    rw [hm] at hr
    exact hbf.ne_ hr (by decide) rfl)) (.inl rfl) hok
  refine post1 (.inl rfl) rfl rfl ?_
  rw [hr]
  exact ⟨(chg_self hc1).trans hc2 (fun j hj _ => by simp at hj; subst hj; exact (x1.mem_file hq).1), rfl, _, x2, (Grows.refl _ _ _).trans hg2 hc1.size⟩

set_option maxHeartbeats 4000000 in
theorem append_has (g : Nat) (s : FsM) (p : FsP) (k : Nm) (A : Option Addr) (n c : Nat) (b : List UInt8) (w : World) (x : FsAt w g s p) (hb : Firm (p.fp g) w (fun w => SliceOf Ru8 w (.slice A n c) b)) (hbl : b.length ≤ 1000000000) (hcalls : s.calls < 1000000000 - 1) :
    Has Go.Proofs.Tryz.prog 29 #[ptrV g, .string (str k), .slice A n c] w (FsDone w g p (appendM s k b)) := by
  obtain ⟨rfl, hb1, hb2⟩ := hb.now.len
  refine enter Go.Proofs.Tryz.func29 rfl rfl (by decide) rfl (e := [(0, ptrV g), (1, .string (str k)), (2, .slice A b.length c)]) ⟨rfl, rfl, rfl, trivial⟩ ?_
  unfold ptrV
  repeat (first | refine W_seq ?_ | refine W_region ?_ | refine Then_n ?_ | refine WL_nil ?_ | refine WL_some rfl rfl rfl ?_ | refine op_move rfl rfl ?_ | refine op_assign rfl rfl ?_)
  refine op_call rfl rfl rfl (call_has g s p w x (by omega)) ?_
  rintro _ w1 ⟨hc1, rfl, x1⟩
  have hs1 := hb w1 (chg_self hc1)
  cases hfm : failsM s with
  | true =>
    have hr : appendM s k b = (callM s, 5) := by unfold appendM; simp [hfm]
    rw [if_pos rfl]
    repeat (first | refine W_seq ?_ | refine W_region ?_ | refine W_ret ?_ | refine Then_n ?_ | refine Then_r ?_ | refine WL_nil ?_ | refine W_condT rfl ?_ | refine WL_some rfl rfl rfl ?_ | refine op_move rfl rfl ?_ | refine op_assign rfl rfl ?_ | refine op_neq rfl rfl rfl (fun hc => ?_) (fun hc => False.elim (by omega)))
    refine post1 (.inl rfl) rfl rfl ?_
    rw [hr]; exact ⟨chg_self hc1, rfl, p, x1, Grows.refl _ _ _⟩
  | false =>
  rw [if_neg (by simp)]
  have hbk1 := x1.blk
  cases hl : looks (callM s).dir k with
  | none =>
    have hr : appendM s k b = (callM s, 3) := by unfold appendM; simp [hfm, hl]
    repeat (first | refine W_seq ?_ | refine W_region ?_ | refine W_skip ?_ | refine Then_n ?_ | refine WL_nil ?_ | refine W_condF rfl ?_ | refine WL_some rfl rfl rfl ?_ | refine op_move rfl rfl ?_ | refine op_assign rfl rfl ?_ | refine op_nilCheck rfl rfl ?_ | refine op_neq rfl rfl rfl (fun hc => False.elim (by omega)) (fun hc => ?_) | refine op_fieldAddr T rfl rfl rfl rfl rfl rfl rfl rfl ?_ | refine op_loadB T rfl rfl rfl rfl (by assumption) (by exact rfl) ?_)
    refine op_lookup_v T strKey rfl rfl rfl rfl rfl rfl x1.dirM (v := .pointer none) (fun b hb => by rw [at2_none hl] at hb; cases hb) (fun _ => rfl) ?_
    repeat (first | refine W_seq ?_ | refine W_block ?_ | refine W_region ?_ | refine W_ret ?_ | refine Then_n ?_ | refine Then_r ?_ | refine InBlock_r ?_ | refine WL_nil ?_ | refine W_condT rfl ?_ | refine WL_some rfl rfl rfl ?_ | refine op_move rfl rfl ?_ | refine op_assign rfl rfl ?_ | refine op_eql_nilptr T rfl rfl rfl rfl rfl ?_)
    refine post1 (.inl rfl) rfl rfl ?_
    rw [hr]; exact ⟨chg_self hc1, rfl, p, x1, Grows.refl _ _ _⟩
  | some i =>
  obtain ⟨q, f, hq, hfi⟩ := x1.get hl
  have hul := usedM_le x1.ok
  have hr0 := x1.ok.room0
  have hr1 := x1.ok.room1
  repeat (first | refine W_seq ?_ | refine W_region ?_ | refine W_skip ?_ | refine Then_n ?_ | refine WL_nil ?_ | refine W_condF rfl ?_ | refine WL_some rfl rfl rfl ?_ | refine op_move rfl rfl ?_ | refine op_assign rfl rfl ?_ | refine op_nilCheck rfl rfl ?_ | refine op_neq rfl rfl rfl (fun hc => False.elim (by omega)) (fun hc => ?_) | refine op_fieldAddr T rfl rfl rfl rfl rfl rfl rfl rfl ?_ | refine op_loadB T rfl rfl rfl rfl (by assumption) (by exact rfl) ?_)
  refine op_lookup_v T strKey rfl rfl rfl rfl rfl rfl x1.dirM (v := ptrV q.1) (fun b hb => by rw [at2_some hl hq] at hb; injection hb with hb; rw [hb]) (fun hn => by rw [at2_some hl hq] at hn; cases hn) ?_
  unfold ptrV
  repeat (first | refine W_seq ?_ | refine W_block ?_ | refine W_region ?_ | refine Then_n ?_ | refine WL_nil ?_ | refine W_condF rfl ?_ | refine WL_some rfl rfl rfl ?_ | refine op_move rfl rfl ?_ | refine op_assign rfl rfl ?_ | refine op_eql_nilptr T rfl rfl rfl rfl rfl ?_)
  refine W_walk 10 [] fol (by kernel_rfl) (by kernel_rfl) ?_
  refine Walk.plain rfl (by intro val w_ hR hp; exact op_move rfl rfl ⟨Chg.refl _ _, rfl⟩) ?_; dsimp only [List.nil_append, List.cons_append]
  refine Walk.plain rfl (by intro val w_ hR hp; exact op_len_slice T rfl rfl rfl rfl ⟨Chg.refl _ _, rfl⟩) ?_; dsimp only [List.nil_append, List.cons_append]
  refine Walk.plain rfl (by intro val w_ hR hp; exact op_move rfl rfl ⟨Chg.refl _ _, rfl⟩) ?_; dsimp only [List.nil_append, List.cons_append]
  refine Walk.plain rfl (by intro val w_ hR hp; exact op_nilCheck rfl rfl ⟨Chg.refl _ _, rfl⟩) ?_; dsimp only [List.nil_append, List.cons_append]
  refine Walk.plain rfl (by intro val w_ hR hp; exact op_fieldAddr T rfl rfl rfl rfl rfl rfl rfl rfl ⟨Chg.refl _ _, rfl⟩) ?_; dsimp only [List.nil_append, List.cons_append]
  refine Walk.plain rfl (by intro val w_ hR hp; exact op_load T rfl rfl rfl rfl ((Blk.keep0 hbk1 hR).cell rfl) ⟨Chg.refl _ _, rfl⟩) ?_; dsimp only [List.nil_append, List.cons_append]
  refine Walk.plain rfl (by intro val w_ hR hp; exact op_move rfl rfl ⟨Chg.refl _ _, rfl⟩) ?_; dsimp only [List.nil_append, List.cons_append]
  refine Walk.plain (v := .int .i64 (usedM (callM s))) rfl (by intro val w_ hR hp; exact op_call rfl rfl rfl (used_has g _ p w_ (x1.keep0 hR)) (fun v w' ⟨hc, hv⟩ => ⟨hc, hv⟩)) ?_; dsimp only [List.nil_append, List.cons_append]
  refine Walk.plain rfl (by intro val w_ hR hp; exact op_subt rfl rfl rfl (wrap_i64_in (by omega) (by omega)) ⟨Chg.refl _ _, rfl⟩) ?_; dsimp only [List.nil_append, List.cons_append]
  by_cases hfull : (callM s).room - usedM (callM s) < b.length
  case pos =>
    refine Walk.plain rfl (by intro val w_ hR hp; exact op_gtr rfl rfl rfl (fun hc => ⟨Chg.refl _ _, rfl⟩) (fun hc => False.elim (by omega))) ?_; dsimp only [List.nil_append, List.cons_append]
    refine Walk.fin ?_
    intro val w2 hc2 _
    have x2 := x1.keep0 hc2
    have hr : appendM s k b = (callM s, 4) := by unfold appendM; simp [hfm, hl, hfull]
    refine WL_sub (e' := [(6, .int .i64 0), (33, .bool true)]) ⟨rfl, rfl, trivial⟩ ?_
    repeat (first | refine W_seq ?_ | refine W_region ?_ | refine W_ret ?_ | refine Then_n ?_ | refine Then_r ?_ | refine InBlock_r ?_ | refine WL_nil ?_ | refine W_condT rfl ?_ | refine WL_some rfl rfl rfl ?_ | refine op_assign rfl rfl ?_)
    refine post1 (.inl rfl) rfl rfl ?_
    rw [hr]; exact ⟨(chg_self hc1).trans' hc2, rfl, p, x2, Grows.refl _ _ _⟩
  case neg =>
    refine Walk.plain rfl (by intro val w_ hR hp; exact op_gtr rfl rfl rfl (fun hc => False.elim (by omega)) (fun hc => ⟨Chg.refl _ _, rfl⟩)) ?_; dsimp only [List.nil_append, List.cons_append]
    refine Walk.fin ?_
    intro val w2 hc2 _
    have x2 := x1.keep0 hc2
    have hr : appendM s k b = ({ callM s with files := (callM s).files.modify i fun f => { f with b := f.b ++ b } }, 0) := by unfold appendM; simp [hfm, hl, hfull]
    have hok := appendM_ok x.ok k b
    rw [hr] at hok
    refine WL_sub (e' := [(0, .pointer (some ⟨g, 0, none⟩)), (2, .slice A b.length c), (6, .int .i64 0), (8, .pointer (some ⟨q.1, 0, none⟩)), (33, .bool false)]) ⟨rfl, rfl, rfl, rfl, rfl, trivial⟩ ?_
    have hbf := x2.fblk i q f hq hfi
    have hof := x2.fown i q f hq hfi
    have hs2 := SliceOf.kept Ru8.kept _ _ _ _ hc2 hs1
    have hfl := (x1.ok.files f (List.mem_of_getElem? hfi)).2
    obtain ⟨A2, c2, hv, hv1, hv2⟩ := hof.form
    repeat (first | refine W_seq ?_ | refine W_region ?_ | refine W_skip ?_ | refine Then_n ?_ | refine InBlock_n ?_ | refine WL_nil ?_ | refine W_condF rfl ?_ | refine WL_some rfl rfl rfl ?_ | refine op_move rfl rfl ?_ | refine op_assign rfl rfl ?_ | refine op_nilCheck rfl rfl ?_ | refine op_fieldAddr T rfl rfl rfl rfl rfl rfl rfl rfl ?_ | refine op_loadB T rfl rfl rfl rfl (by assumption) (by exact rfl) ?_)
    refine op_append T (n := f.b.length) (xs := u8s f.b) (m := b.length) (news := u8s b) rfl rfl rfl rfl rfl rfl rfl rfl hof (by rw [u8s_length]; exact (Nat.mul_one _).symm) ?_ (by unfold maxLen; omega) (by show (f.b.length + b.length) * 1 ≤ _; omega) ?_
    · intro j u hj
      obtain ⟨cc, hcc, rfl⟩ := u8s_inv hj
      obtain ⟨ad, u', he, hu, rfl⟩ := hs2.get hcc
      exact ⟨⟨ad, he, hu⟩, rfl⟩
    intro v3 w3 ho3 hc3 hb3 _
    have hq1 : q.1 ∉ q.2.ownBlock.toList := fun hm => by
      obtain ⟨cur, hr⟩ := hof.row (show q.2.ownBlock = some q.1 by simpa using hm)
      exact hbf.ne_ hr (by decide) rfl
    have hbf3 := hbf.keep hc3 hq1
    obtain ⟨A3, c3, rfl, _, _⟩ := ho3.form
    repeat (first | refine WL_some rfl rfl rfl ?_ | refine WL_none rfl rfl ?_ | refine op_nilCheck rfl rfl ?_ | refine op_fieldAddr T rfl rfl rfl rfl rfl rfl rfl rfl ?_)
    refine op_store T rfl rfl rfl rfl rfl rfl hbf3 (Nat.le_of_ble_eq_true rfl) (fun w4 hc4 hb4 _ => ?_)
    repeat (first | refine W_seq ?_ | refine W_region ?_ | refine W_ret ?_ | refine Then_n ?_ | refine WL_nil ?_ | refine WL_some rfl rfl rfl ?_ | refine op_assign rfl rfl ?_)
    have hc24 : Chg (q.1 :: q.2.ownBlock.toList) w2 w4 := (hc3.mono (fun j hj _ => by simp at hj; simp [hj])).trans hc4 (fun j hj _ => by simp at hj; simp [hj])
    obtain ⟨x4, hg4⟩ := x2.setFile hq hfi (fun f => { f with b := f.b ++ b }) hc24 (fun j hj _ => by simpa using hj) hb4 (by
      show Own w4 _ 1 _ (f.b ++ b).length (u8s (f.b ++ b))
      rw [List.length_append, u8s_append]
      refine ho3.keep hc4 (fun h hh hm => ?_)
      simp at hm
      obtain ⟨cur, hr⟩ := ho3.row hh
      rw [hm] at hr
      exact hbf3.ne_ hr (by decide) rfl) hb3 hok
    refine post1 (.inl rfl) rfl rfl ?_
    rw [hr]
    obtain ⟨hm1, hm2⟩ := x2.mem_file hq
    have hc02 := (chg_self (p := p) hc1).trans' hc2
    exact ⟨hc02.trans hc24 (fun j hj _ => by
      rcases List.mem_cons.1 hj with h | h
      · subst h; exact hm1
      · exact hm2 j (by simpa using h)), rfl, _, x4, (Grows.refl _ _ _).trans hg4 hc02.size⟩

/-- What Read leaves: the bytes of a file, in a row of the call's own. -/
def readV (o : Option (List UInt8)) (w0 : World) (v : Value) (w' : World) : Prop := match o with
  | none => v = .tuple #[.slice none 0 0, .int .i64 3]
  | some b => ∃ u, v = .tuple #[u, .int .i64 0] ∧ Own w' 5 1 u b.length (u8s b) ∧ ∀ h, u.ownBlock = some h → w0.heap.size ≤ h
theorem read_has (g : Nat) (s : FsM) (p : FsP) (k : Nm) (w : World) (x : FsAt w g s p) :
    Has Go.Proofs.Tryz.prog 23 #[ptrV g, .string (str k)] w (fun v w' => Chg [] w w' ∧ readV (readM s k) w v w') := by
  refine enter Go.Proofs.Tryz.func23 rfl rfl (by decide) rfl (e := [(0, ptrV g), (1, .string (str k))]) ⟨rfl, rfl, trivial⟩ ?_
  unfold ptrV
  have hb := x.blk
  cases hl : looks s.dir k with
  | none =>
    have hr : readM s k = none := by unfold readM; rw [hl]; rfl
    repeat (first | refine W_seq ?_ | refine W_region ?_ | refine Then_n ?_ | refine WL_nil ?_ | refine WL_some rfl rfl rfl ?_ | refine WL_guardT rfl rfl rfl rfl ?_ | refine op_move rfl rfl ?_ | refine op_assign rfl rfl ?_ | refine op_nilCheck rfl rfl ?_ | refine op_fieldAddr T rfl rfl rfl rfl rfl rfl rfl rfl ?_ | refine op_eql_nilptr T rfl rfl rfl rfl rfl ?_ | refine op_loadB T rfl rfl rfl rfl (by assumption) (by exact rfl) ?_)
    refine op_lookup_v T strKey rfl rfl rfl rfl rfl rfl x.dirM (v := .pointer none) (fun b hb => by rw [at2_none hl] at hb; cases hb) (fun _ => rfl) ?_
    repeat (first | refine W_seq ?_ | refine W_region ?_ | refine W_ret ?_ | refine Then_n ?_ | refine Then_r ?_ | refine WL_nil ?_ | refine W_condT rfl ?_ | refine WL_some rfl rfl rfl ?_ | refine WL_guardT rfl rfl rfl rfl ?_ | refine op_assign rfl rfl ?_ | refine op_pick rfl rfl rfl rfl ?_ | refine op_eql_nilptr T rfl rfl rfl rfl rfl ?_)
    refine post2 (.inl rfl) rfl rfl rfl ⟨Chg.refl _ _, ?_⟩
    rw [hr]; rfl
  | some i =>
    obtain ⟨q, f, hq, hfi⟩ := x.get hl
    have hr : readM s k = some f.b := by unfold readM; rw [hl]; simp [hfi]
    have hbf := x.fblk i q f hq hfi
    have hof := x.fown i q f hq hfi
    have hfl := (x.ok.files f (List.mem_of_getElem? hfi)).2
    obtain ⟨A, c, hv, hv1, hv2⟩ := hof.form
    rw [hv] at hbf hof
    repeat (first | refine W_seq ?_ | refine W_region ?_ | refine Then_n ?_ | refine WL_nil ?_ | refine WL_some rfl rfl rfl ?_ | refine WL_guardT rfl rfl rfl rfl ?_ | refine op_move rfl rfl ?_ | refine op_assign rfl rfl ?_ | refine op_nilCheck rfl rfl ?_ | refine op_fieldAddr T rfl rfl rfl rfl rfl rfl rfl rfl ?_ | refine op_eql_nilptr T rfl rfl rfl rfl rfl ?_ | refine op_loadB T rfl rfl rfl rfl (by assumption) (by exact rfl) ?_)
    refine op_lookup_v T strKey rfl rfl rfl rfl rfl rfl x.dirM (v := ptrV q.1) (fun b hb => by rw [at2_some hl hq] at hb; injection hb with hb; rw [hb]) (fun hn => by rw [at2_some hl hq] at hn; cases hn) ?_
    unfold ptrV
    repeat (first | refine W_seq ?_ | refine W_region ?_ | refine W_skip ?_ | refine Then_n ?_ | refine WL_nil ?_ | refine W_condF rfl ?_ | refine WL_some rfl rfl rfl ?_ | refine WL_guardT rfl rfl rfl rfl ?_ | refine op_move rfl rfl ?_ | refine op_pick rfl rfl rfl rfl ?_ | refine op_nilCheck rfl rfl ?_ | refine op_fieldAddr T rfl rfl rfl rfl rfl rfl rfl rfl ?_ | refine op_eql_nilptr T rfl rfl rfl rfl rfl ?_ | refine op_loadB T rfl rfl rfl rfl (by assumption) (by exact rfl) ?_)
    refine op_lookup_v T strKey rfl rfl rfl rfl rfl rfl x.dirM (v := ptrV q.1) (fun b hb => by rw [at2_some hl hq] at hb; injection hb with hb; rw [hb]) (fun hn => by rw [at2_some hl hq] at hn; cases hn) ?_
    unfold ptrV
    repeat (first | refine WL_some rfl rfl rfl ?_ | refine op_nilCheck rfl rfl ?_ | refine op_fieldAddr T rfl rfl rfl rfl rfl rfl rfl rfl ?_ | refine op_loadB T rfl rfl rfl rfl (by assumption) (by exact rfl) ?_)
    refine op_call rfl rfl rfl (clone_has A _ c f.b w hof.bytes (by omega)) ?_
    rintro v w1 ⟨hc1, ho1, hf1⟩
    repeat (first | refine W_ret ?_ | refine Then_n ?_ | refine WL_nil ?_ | refine WL_some rfl rfl rfl ?_ | refine op_assign rfl rfl ?_)
    refine post2 (.inl rfl) rfl rfl rfl ⟨hc1, ?_⟩
    rw [hr]; exact ⟨v, rfl, ho1, hf1⟩
end Go.Proofs.YtiadjkjlifnopaaGreatDoor.Tryz
/-! Files: Rot. -/
set_option linter.unusedVariables false
set_option linter.unusedSimpArgs false
namespace Go.Vc
open Go
def rotC (x : UInt8) (i : Nat) (c : UInt8) : UInt8 := c ^^^ (x + UInt8.ofNat (i % 64))
def rotTo (b : List UInt8) (sec : Nat) (x : UInt8) (j : Nat) : List UInt8 := b.mapIdx fun i c => if sec * 64 ≤ i ∧ i < j then rotC x i c else c
theorem rotTo_length (b : List UInt8) (sec : Nat) (x : UInt8) (j : Nat) : (rotTo b sec x j).length = b.length := by simp [rotTo]
theorem rotTo_get {b : List UInt8} {sec : Nat} {x : UInt8} {j i : Nat} {c : UInt8} (h : b[i]? = some c) : (rotTo b sec x j)[i]? = some (if sec * 64 ≤ i ∧ i < j then rotC x i c else c) := by
  simp [rotTo, List.getElem?_mapIdx, h]
theorem rotTo_start (b : List UInt8) (sec : Nat) (x : UInt8) : rotTo b sec x (sec * 64) = b := by
  apply List.ext_getElem?
  intro i
  cases h : b[i]? with
  | none => rw [List.getElem?_eq_none_iff] at h ⊢; rw [rotTo_length]; exact h
  | some c => rw [rotTo_get h, if_neg (by omega)]
theorem rotTo_step {b : List UInt8} {sec : Nat} {x : UInt8} {j : Nat} {c : UInt8} (h : b[j]? = some c) (hj : sec * 64 ≤ j) : (rotTo b sec x j).set j (rotC x j c) = rotTo b sec x (j + 1) := by
  apply List.ext_getElem?
  intro i
  rw [List.getElem?_set]
  by_cases e : j = i
  · subst e
    rw [if_pos rfl, rotTo_length, if_pos (List.getElem?_eq_some_iff.1 h).1, rotTo_get h, if_pos ⟨hj, by omega⟩]
  · rw [if_neg e]
    cases hi : b[i]? with
    | none =>
      have h1 := List.getElem?_eq_none_iff.1 hi
      rw [List.getElem?_eq_none_iff.2 (by rw [rotTo_length]; exact h1), List.getElem?_eq_none_iff.2 (by rw [rotTo_length]; exact h1)]
    | some d =>
      rw [rotTo_get hi, rotTo_get hi]
      by_cases h2 : sec * 64 ≤ i ∧ i < j
      · rw [if_pos h2, if_pos ⟨h2.1, by omega⟩]
      · rw [if_neg h2, if_neg (by omega)]
theorem rotTo_end (b : List UInt8) (sec : Nat) (x : UInt8) (j : Nat) (hj : j = min b.length ((sec + 1) * 64)) : rotTo b sec x j = rotB b sec x := by
  unfold rotTo rotB
  apply List.ext_getElem?
  intro i
  rw [List.getElem?_mapIdx, List.getElem?_mapIdx]
  cases h : b[i]? with
  | none => rfl
  | some c =>
    have := (List.getElem?_eq_some_iff.1 h).1
    simp only [Option.map_some]
    by_cases h2 : sec * 64 ≤ i ∧ i < j
    · rw [if_pos h2, if_pos ⟨h2.1, by omega⟩]; rfl
    · rw [if_neg h2, if_neg (by omega)]
theorem add_u8 (x y : UInt8) : IntKind.u8.wrap ((x.toNat : Int) + (y.toNat : Int)) = ((x + y).toNat : Int) := by
  rw [IntKind.wrap_u8, UInt8.toNat_add]; omega
end Go.Vc
namespace Go.Proofs.YtiadjkjlifnopaaGreatDoor.Tryz
open Go Go.Vc

end Go.Proofs.YtiadjkjlifnopaaGreatDoor.Tryz
/-! Files: a crash. Plain laws. -/
set_option linter.unusedVariables false
set_option linter.unusedSimpArgs false
namespace Go.Vc
open Go
def crashTo (s : FsM) (n : Int) (k : Nat) : Dir := (s.waits.take (min k n.toNat)).foldl doM s.lasts
theorem crashTo_zero (s : FsM) (n : Int) : crashTo s n 0 = s.lasts := by unfold crashTo; simp
theorem crashTo_step {s : FsM} {n : Int} {k : Nat} {c : ChM} (hc : s.waits[k]? = some c) (hk : (k : Int) < n) : crashTo s n (k + 1) = doM (crashTo s n k) c := by
  unfold crashTo
  rw [show min (k + 1) n.toNat = k + 1 by omega, show min k n.toNat = k by omega, List.take_add_one, hc, List.foldl_append]
  rfl
theorem crashTo_stop {s : FsM} {n : Int} {k : Nat} (hk : ¬ (k : Int) < n) : crashTo s n (k + 1) = crashTo s n k := by
  unfold crashTo
  rw [show min (k + 1) n.toNat = min k n.toNat by omega]
theorem crashTo_end (s : FsM) (n : Int) : crashTo s n s.waits.length = crashDir s n := by
  unfold crashTo crashDir
  by_cases h : s.waits.length ≤ n.toNat
  · rw [show min s.waits.length n.toNat = s.waits.length by omega, List.take_of_length_le (Nat.le_refl _), List.take_of_length_le h]
  · rw [show min s.waits.length n.toNat = n.toNat by omega]
theorem crashTo_fit {s : FsM} (h : FsOk s) {n : Int} {k : Nat} {c : ChM} (hc : s.waits[k]? = some c) (hk : (k : Int) < n) : DirOk s.files.length (crashTo s n k) ∧ Fit1 (crashTo s n k) c := by
  have hl := (List.getElem?_eq_some_iff.1 hc).1
  have h1 := h.replay.at k (by omega)
  have hd : s.waits.drop k = c :: s.waits.drop (k + 1) := by rw [List.drop_eq_getElem_cons hl, (List.getElem?_eq_some_iff.1 hc).2]
  rw [hd] at h1
  have e : crashTo s n k = (s.waits.take k).foldl doM s.lasts := by unfold crashTo; rw [show min k n.toNat = k by omega]
  rw [e]
  exact ⟨h1.1, h1.2.1⟩
theorem chunk (fb : List (Nat × Value)) : ∀ (l : List ChM) (k : Nat) (c : ChM), l[k]? = some c → ((l.flatMap (chV fb)).drop (k * 4)).take 4 = chV fb c
  | [], k, c, h => by simp at h
  | a :: l, 0, c, h => by simp at h; subst h; rw [List.flatMap_cons]; simp [chV]
  | a :: l, k + 1, c, h => by
    rw [List.flatMap_cons, show (k + 1) * 4 = (chV fb a).length + k * 4 by simp [chV]; omega, List.drop_length_add_append]
    exact chunk fb l k c (by simpa using h)
def idxOf : Dir → Nm → Option Nat
  | [], _ => none
  | p :: d, k => if p.1 = k then some 0 else (idxOf d k).map (· + 1)
theorem idxOf_get {d : Dir} {k : Nm} {j : Nat} (h : idxOf d k = some j) : ∃ p, d[j]? = some p ∧ p.1 = k := by
  induction d generalizing j with
  | nil => cases h
  | cons p d ih =>
    unfold idxOf at h
    split at h
    · injection h with h; subst h; exact ⟨p, rfl, by assumption⟩
    · cases hi : idxOf d k with
      | none => rw [hi] at h; cases h
      | some i =>
        rw [hi] at h
        injection h with h
        subst h
        exact ih hi
theorem idxOf_of {d : Dir} (hr : (d.map (·.1)).Nodup) {j : Nat} {p : Nm × Nat} (h : d[j]? = some p) : idxOf d p.1 = some j := by
  induction d generalizing j with
  | nil => cases h
  | cons q d ih =>
    unfold idxOf
    rw [List.map_cons, List.nodup_cons] at hr
    cases j with
    | zero => simp at h; subst h; rw [if_pos rfl]
    | succ j =>
      have h' : d[j]? = some p := by simpa using h
      rw [if_neg (fun e => hr.1 (by rw [e]; exact List.mem_map.2 ⟨p, List.mem_of_getElem? h', rfl⟩)), ih hr.2 h']
      rfl
theorem looks_idx (d : Dir) (k : Nm) : looks d k = (idxOf d k).bind fun j => (d[j]?).map (·.2) := by
  induction d with
  | nil => rfl
  | cons p d ih =>
    obtain ⟨k', i⟩ := p
    unfold looks idxOf
    by_cases h : k' = k
    · rw [if_pos h, if_pos h]; rfl
    · rw [if_neg h, if_neg h, ih]
      cases idxOf d k <;> rfl
theorem idxOf_map (f : Nat → Nm × Nat → Nat) : ∀ (d : Dir) (k : Nm), idxOf (d.mapIdx fun j p => (p.1, f j p)) k = idxOf d k := by
  intro d
  induction d generalizing f with
  | nil => intro k; rfl
  | cons p d ih =>
    intro k
    rw [List.mapIdx_cons]
    unfold idxOf
    rw [ih (fun j p => f (j + 1) p)]
/-- Where the first files have been laid anew. -/
def hAt (fb nb : List (Nat × Value)) (d : Dir) (k : Nm) : Option Nat := (idxOf d k).bind fun j => if j < nb.length then (nb[j]?).map (·.1) else (d[j]?).bind fun p => (fb[p.2]?).map (·.1)
theorem hAt_start (fb : List (Nat × Value)) (d : Dir) (k : Nm) : hAt fb [] d k = at2 fb d k := by
  unfold hAt at2
  rw [looks_idx]
  cases idxOf d k with
  | none => rfl
  | some j =>
    simp only [Option.bind_some, List.length_nil, Nat.not_lt_zero, if_false]
    cases d[j]? <;> rfl
theorem hAt_step {fb nb : List (Nat × Value)} {d : Dir} (hr : (d.map (·.1)).Nodup) {p : Nm × Nat} (hp : d[nb.length]? = some p) (q : Nat × Value) (k : Nm) : hAt fb (nb ++ [q]) d k = upd (hAt fb nb d) p.1 q.1 k := by
  unfold upd
  by_cases h : k = p.1
  · subst h
    rw [if_pos rfl]
    unfold hAt
    rw [idxOf_of hr hp]
    simp
  · rw [if_neg h]
    unfold hAt
    cases hi : idxOf d k with
    | none => rfl
    | some j =>
      have hj : j ≠ nb.length := fun e => by
        subst e
        obtain ⟨p', h1, h2⟩ := idxOf_get hi
        rw [hp] at h1; injection h1 with h1; subst h1
        exact h h2.symm
      simp only [Option.bind_some, List.length_append, List.length_singleton]
      by_cases hlt : j < nb.length
      · rw [if_pos hlt, if_pos (by omega), List.getElem?_append_left hlt]
      · rw [if_neg hlt, if_neg (by omega)]
theorem hAt_end {fb nb : List (Nat × Value)} {d : Dir} (hl : nb.length = d.length) (k : Nm) : hAt fb nb d k = at2 nb (d.mapIdx fun j p => (p.1, j)) k := by
  unfold hAt at2
  rw [looks_idx, idxOf_map (fun j _ => j)]
  cases hi : idxOf d k with
  | none => rfl
  | some j =>
    obtain ⟨p, h1, _⟩ := idxOf_get hi
    have hj := (List.getElem?_eq_some_iff.1 h1).1
    simp only [Option.bind_some]
    rw [if_pos (by omega)]
    simp [h1]
theorem hAt_at {fb nb : List (Nat × Value)} {d : Dir} (hr : (d.map (·.1)).Nodup) {p : Nm × Nat} (hp : d[nb.length]? = some p) {q : Nat × Value} (hq : fb[p.2]? = some q) : hAt fb nb d p.1 = some q.1 := by
  unfold hAt
  rw [idxOf_of hr hp]
  simp [hp, hq]
end Go.Vc
/-! Files: a crash. -/
set_option linter.unusedVariables false
set_option linter.unusedSimpArgs false
namespace Go.Proofs.YtiadjkjlifnopaaGreatDoor.Tryz
open Go Go.Vc

/-- The file system that a crash leaves, under way: files laid anew so far. -/
structure NewFiles (w0 w : World) (s : FsM) (d : Dir) (tails : List Int) (nb : List (Nat × Value)) : Prop where
  blk : ∀ (j : Nat) q r, nb[j]? = some q → d[j]? = some r → Blk w q.1 106 [q.2, .int .i64 (cutM ((s.files[r.2]?).getD ⟨[], 0⟩) tails j).synced]
  own : ∀ (j : Nat) q r, nb[j]? = some q → d[j]? = some r → Own w 5 1 q.2 (cutM ((s.files[r.2]?).getD ⟨[], 0⟩) tails j).b.length (u8s (cutM ((s.files[r.2]?).getD ⟨[], 0⟩) tails j).b)
  fresh : ∀ q ∈ nb, w0.heap.size ≤ q.1 ∧ q.1 < w.heap.size ∧ ∀ h, q.2.ownBlock = some h → w0.heap.size ≤ h ∧ h < w.heap.size
  apart2 : (nb.map (·.1)).Nodup
  apart3 : ∀ (i j : Nat) q q' h, nb[i]? = some q → nb[j]? = some q' → q.2.ownBlock = some h → q'.2.ownBlock = some h → i = j
theorem NewFiles.keep {w0 w w' : World} {s : FsM} {d : Dir} {tails : List Int} {nb : List (Nat × Value)} {S : List Nat} (x : NewFiles w0 w s d tails nb) (hl : nb.length ≤ d.length) (hc : Chg S w w') (hS : ∀ k ∈ S, ∀ t cs, ¬ Blk w k t cs) : NewFiles w0 w' s d tails nb :=
  ⟨fun j q r h1 h2 => (x.blk j q r h1 h2).keep hc (fun hm => hS _ hm _ _ (x.blk j q r h1 h2)), fun j q r h1 h2 => (x.own j q r h1 h2).keep hc (fun h hh hm => by
    obtain ⟨cur, hr⟩ := (x.own j q r h1 h2).row hh
    exact hS _ hm _ _ hr), fun q hq => by
      obtain ⟨a1, a2, a3⟩ := x.fresh q hq
      have := hc.size
      exact ⟨a1, by omega, fun h hh => ⟨(a3 h hh).1, by have := (a3 h hh).2; omega⟩⟩, x.apart2, x.apart3⟩
theorem NewFiles.snoc {w0 w : World} {s : FsM} {d : Dir} {tails : List Int} {nb : List (Nat × Value)} (x : NewFiles w0 w s d tails nb) {r : Nm × Nat} (hr : d[nb.length]? = some r) {b : Nat} {v : Value}
    (hb : Blk w b 106 [v, .int .i64 (cutM ((s.files[r.2]?).getD ⟨[], 0⟩) tails nb.length).synced]) (ho : Own w 5 1 v (cutM ((s.files[r.2]?).getD ⟨[], 0⟩) tails nb.length).b.length (u8s (cutM ((s.files[r.2]?).getD ⟨[], 0⟩) tails nb.length).b))
    (hb0 : w0.heap.size ≤ b) (hv0 : ∀ h, v.ownBlock = some h → w0.heap.size ≤ h) (hbn : ∀ q ∈ nb, q.1 ≠ b) (hvn : ∀ q ∈ nb, ∀ h, q.2.ownBlock = some h → v.ownBlock ≠ some h) : NewFiles w0 w s d tails (nb ++ [(b, v)]) := by
  have hget : ∀ (j : Nat) q, (nb ++ [(b, v)])[j]? = some q → (j < nb.length ∧ nb[j]? = some q) ∨ (j = nb.length ∧ q = (b, v)) := fun j q h => by
    by_cases hj : j < nb.length
    · rw [List.getElem?_append_left hj] at h; exact .inl ⟨hj, h⟩
    · rw [List.getElem?_append_right (by omega)] at h
      have := (List.getElem?_eq_some_iff.1 h).1
      simp at this
      obtain rfl : j = nb.length := by omega
      simp at h; exact .inr ⟨rfl, h.symm⟩
  refine ⟨fun j q r' h1 h2 => ?_, fun j q r' h1 h2 => ?_, fun q hq => ?_, ?_, fun i j q q' h h1 h2 h3 h4 => ?_⟩
  · rcases hget j q h1 with ⟨_, h1⟩ | ⟨rfl, rfl⟩
    · exact x.blk j q r' h1 h2
    · rw [hr] at h2; injection h2 with h2; subst h2; exact hb
  · rcases hget j q h1 with ⟨_, h1⟩ | ⟨rfl, rfl⟩
    · exact x.own j q r' h1 h2
    · rw [hr] at h2; injection h2 with h2; subst h2; exact ho
  · rcases List.mem_append.1 hq with hq | hq
    · exact x.fresh q hq
    · simp at hq; subst hq; exact ⟨hb0, hb.lt, fun h hh => ⟨hv0 h hh, ho.lt hh⟩⟩
  · rw [List.map_append]
    refine List.nodup_append.2 ⟨x.apart2, by simp, fun a ha c hc e => ?_⟩
    obtain ⟨q, hq, rfl⟩ := List.mem_map.1 ha
    simp at hc
    exact hbn q hq (e.trans hc)
  · rcases hget i q h1 with ⟨_, h1⟩ | ⟨rfl, rfl⟩
    · rcases hget j q' h2 with ⟨_, h2⟩ | ⟨rfl, rfl⟩
      · exact x.apart3 i j q q' h h1 h2 h3 h4
      · exact absurd h4 (hvn q (List.mem_of_getElem? h1) h h3)
    · rcases hget j q' h2 with ⟨_, h2⟩ | ⟨rfl, rfl⟩
      · exact absurd h3 (hvn q' (List.mem_of_getElem? h2) h h4)
      · rfl

set_option maxHeartbeats 8000000 in
theorem crash_has (g : Nat) (s : FsM) (p : FsP) (n : Int) (At : Option Addr) (nt ct : Nat) (tails : List Int) (w : World) (x : FsAt w g s p) (ht : SliceOf Ri64 w (.slice At nt ct) tails) (hcalls : s.calls < 1000000000) :
    Has Go.Proofs.Tryz.prog 26 #[ptrV g, .int .i64 n, .slice At nt ct] w
    (fun v w' => Chg [] w w' ∧ ∃ gc pc, v = ptrV gc ∧ FsAt w' gc (crashM s n tails) pc ∧ ∀ k ∈ pc.fp gc, w.heap.size ≤ k) := by
  obtain ⟨rfl, ht1, ht2⟩ := ht.len
  unfold maxLen at ht2
  have hwl := x.ok.waits
  have hwl2 : s.waits.length < 1000000000 := by omega
  refine enter Go.Proofs.Tryz.func26 rfl rfl (by decide) rfl (e := [(0, ptrV g), (1, .int .i64 n), (2, .slice At tails.length ct)]) ⟨rfl, rfl, rfl, trivial⟩ ?_
  unfold ptrV
  have hb := x.blk
  obtain ⟨Aw, cw, hwv, hw1, hw2⟩ := x.waitsM.form
  repeat (first | refine W_seq ?_ | refine W_region ?_ | refine W_skip ?_ | refine Then_n ?_ | refine WL_nil ?_ | refine W_condF rfl ?_ | refine WL_some rfl rfl rfl ?_ | refine op_move rfl rfl ?_ | refine op_assign rfl rfl ?_ | refine op_eql_nilptr T rfl rfl rfl rfl rfl ?_)
  refine W_walk 11 [] fol (by kernel_rfl) (by kernel_rfl) ?_
  refine Walk.plain rfl (by intro val w_ hR hp; exact op_move rfl rfl ⟨Chg.refl _ _, rfl⟩) ?_; dsimp only [List.nil_append, List.cons_append]
  refine Walk.plain rfl (by intro val w_ hR hp; exact op_nilCheck rfl rfl ⟨Chg.refl _ _, rfl⟩) ?_; dsimp only [List.nil_append, List.cons_append]
  refine Walk.plain rfl (by intro val w_ hR hp; exact op_fieldAddr T rfl rfl rfl rfl rfl rfl rfl rfl ⟨Chg.refl _ _, rfl⟩) ?_; dsimp only [List.nil_append, List.cons_append]
  refine Walk.plain rfl (by intro val w_ hR hp; exact op_load T rfl rfl rfl rfl ((Blk.keep0 hb hR).cell rfl) ⟨Chg.refl _ _, rfl⟩) ?_; dsimp only [List.nil_append, List.cons_append]
  refine Walk.plain rfl (by intro val w_ hR hp; exact op_move rfl rfl ⟨Chg.refl _ _, rfl⟩) ?_; dsimp only [List.nil_append, List.cons_append]
  refine Walk.plain rfl (by intro val w_ hR hp; exact op_nilCheck rfl rfl ⟨Chg.refl _ _, rfl⟩) ?_; dsimp only [List.nil_append, List.cons_append]
  refine Walk.plain rfl (by intro val w_ hR hp; exact op_fieldAddr T rfl rfl rfl rfl rfl rfl rfl rfl ⟨Chg.refl _ _, rfl⟩) ?_; dsimp only [List.nil_append, List.cons_append]
  refine Walk.plain rfl (by intro val w_ hR hp; exact op_load T rfl rfl rfl rfl ((Blk.keep0 hb hR).cell rfl) ⟨Chg.refl _ _, rfl⟩) ?_; dsimp only [List.nil_append, List.cons_append]
  refine Walk.rel (fun u w_ => ∃ m, u = .map (some m) ∧ w.heap.size ≤ m ∧ MapAt keyV ptrV w_ m (at2 p.fb s.lasts)) rfl (fun u a b ⟨m, h1, h2, h3⟩ hab => ⟨m, h1, h2, h3.keep0 hab⟩) ?_ ?_
  · intro val w_ hR hp
    refine op_call rfl rfl rfl (cloneD_has (x.lastsM.keep0 hR)) ?_
    rintro v w' ⟨m, rfl, hs, hc, hm⟩
    exact ⟨hc, m, rfl, by have := hR.size; omega, hm⟩
  dsimp only [List.nil_append, List.cons_append]
  refine Walk.rel (fun u w_ => ∃ m, u = .agg #[.int .i64 s.room, .map none, .map (some m), .slice none 0 0, .int .i64 0, .int .i64 (-1)] ∧ w.heap.size ≤ m ∧ MapAt keyV ptrV w_ m (at2 p.fb s.lasts)) rfl (fun u a b ⟨m, h1, h2, h3⟩ hab => ⟨m, h1, h2, h3.keep0 hab⟩) ?_ ?_
  · intro val w_ hR hp
    obtain ⟨m, he, hs, hm⟩ : ∃ m, val 8 = .map (some m) ∧ w.heap.size ≤ m ∧ MapAt keyV ptrV w_ m (at2 p.fb s.lasts) := hp 8 rfl _ _ rfl rfl
    refine OpW_sub (e' := [(20, .int .i64 s.room), (25, .map (some m))]) ⟨rfl, congrArg some he, trivial⟩ ?_
    refine op_build T rfl rfl rfl rfl rfl rfl ?_
    exact ⟨Chg.refl _ _, m, rfl, hs, hm⟩
  dsimp only [List.nil_append, List.cons_append]
  refine Walk.rel (fun u w_ => ∃ gc m, u = .pointer (some ⟨gc, 0, none⟩) ∧ w.heap.size ≤ gc ∧ Blk w_ gc 86 [.int .i64 s.room, .map none, .map (some m), .slice none 0 0, .int .i64 0, .int .i64 (-1)] ∧ w.heap.size ≤ m ∧ MapAt keyV ptrV w_ m (at2 p.fb s.lasts)) rfl
    (fun u a b ⟨gc, m, h1, h2, h3, h4, h5⟩ hab => ⟨gc, m, h1, h2, h3.keep0 hab, h4, h5.keep0 hab⟩) ?_ ?_
  · intro val w_ hR hp
    obtain ⟨m, he, hs, hm⟩ : ∃ m, val 9 = .agg #[.int .i64 s.room, .map none, .map (some m), .slice none 0 0, .int .i64 0, .int .i64 (-1)] ∧ w.heap.size ≤ m ∧ MapAt keyV ptrV w_ m (at2 p.fb s.lasts) := hp 9 rfl _ _ rfl rfl
    refine OpW_sub (e' := [(26, .agg #[.int .i64 s.room, .map none, .map (some m), .slice none 0 0, .int .i64 0, .int .i64 (-1)])]) ⟨congrArg some he, trivial⟩ ?_
    exact op_box rfl rfl (fun gc w' hs' hc' hg' => ⟨hc', gc, m, rfl, by have := hR.size; omega, hg', hs, hm.keep0 hc'⟩)
  dsimp only [List.nil_append, List.cons_append]
  refine Walk.fin ?_
  intro val w1 hc1 hp
  obtain ⟨gc, m, he, hgc, hb1, hmf, hm1⟩ : ∃ gc m, val 10 = .pointer (some ⟨gc, 0, none⟩) ∧ w.heap.size ≤ gc ∧ Blk w1 gc 86 [.int .i64 s.room, .map none, .map (some m), .slice none 0 0, .int .i64 0, .int .i64 (-1)] ∧ w.heap.size ≤ m ∧ MapAt keyV ptrV w1 m (at2 p.fb s.lasts) := hp 10 (by omega) _ _ rfl rfl
  clear hp
  refine WL_sub (e' := [(0, .pointer (some ⟨g, 0, none⟩)), (1, .int .i64 n), (2, .slice At tails.length ct), (27, .pointer (some ⟨gc, 0, none⟩))]) ⟨rfl, rfl, rfl, congrArg some he, trivial⟩ ?_
  clear he
  have hgb1 : Blk w1 g 86 [.int .i64 s.room, .map (some p.md), .map (some p.ml), .slice Aw s.waits.length cw, .int .i64 s.calls, .int .i64 s.fail] := by rw [← hwv]; exact hb.keep0 hc1
  repeat (first | refine W_seq ?_ | refine W_block ?_ | refine W_region ?_ | refine Then_n ?_ | refine WL_nil ?_ | refine WL_some rfl rfl rfl ?_ | refine op_move rfl rfl ?_ | refine op_assign rfl rfl ?_ | refine op_len_slice T rfl rfl rfl rfl ?_ | refine op_nilCheck rfl rfl ?_ | refine op_fieldAddr T rfl rfl rfl rfl rfl rfl rfl rfl ?_ | refine op_loadB T rfl rfl rfl rfl (by assumption) (by exact rfl) ?_)
  refine W_loop (σ := Nat) (fun k => [(1, .int .i64 n), (2, .slice At tails.length ct), (7, .pointer (some ⟨gc, 0, none⟩)), (31, .slice Aw s.waits.length cw), (32, .int .i64 s.waits.length), (33, .int .i64 k)])
    (fun (k : Nat) w' => k ≤ s.waits.length ∧ Chg [] w w' ∧ Blk w' gc 86 [.int .i64 s.room, .map none, .map (some m), .slice none 0 0, .int .i64 0, .int .i64 (-1)] ∧ MapAt keyV ptrV w' m (at2 p.fb (crashTo s n k))) (fun k => s.waits.length - k) 0
    ⟨rfl, rfl, rfl, rfl, rfl, rfl, trivial⟩ ⟨by omega, hc1, hb1, by rw [crashTo_zero]; exact hm1⟩ ?_
  clear hb1 hm1 hgb1 hc1
  rintro k w2 ⟨hk, hc2, hb2, hm2⟩
  by_cases hkl : k < s.waits.length
  · have hck : s.waits[k]? = some s.waits[k] := List.getElem?_eq_getElem hkl
    generalize s.waits[k] = c at hck
    have x2 := x.keep0 hc2
    obtain ⟨gw, cap, cur, hv', hq1, hq2, hbw, hcl, hct⟩ := x2.waitsM.blk (by omega)
    rw [hwv] at hv'
    injection hv' with e1 e2 e3
    subst e1; subst e3
    obtain ⟨ip, hip⟩ := idV_form p.fb c.id
    have hcv : chV p.fb c = [.int .i64 c.kind, .string (str c.name), .string (str c.to), .pointer ip] := by unfold chV; rw [hip]; rfl
    have hchunk : (cur.drop (k * 4)).take 4 = [.int .i64 c.kind, .string (str c.name), .string (str c.to), .pointer ip] := by
      rw [← hcv, ← chunk p.fb s.waits k c hck, ← hct, List.drop_take, List.take_take]
      congr 1
      omega
    repeat (first | refine W_seq ?_ | refine W_block ?_ | refine W_region ?_ | refine W_skip ?_ | refine Then_n ?_ | refine WL_nil ?_ | refine W_condT rfl ?_ | refine WL_some rfl rfl rfl ?_ | refine op_move rfl rfl ?_ | refine op_lss rfl rfl rfl (fun hc => ?_) (fun hc => False.elim (by omega)))
    refine op_index_slice T rfl rfl rfl rfl rfl (by omega) (by omega) (p := ⟨gw, k * 4, none⟩) (by rw [Int.toNat_natCast]; exact add_plain _ _) ?_
    repeat (refine WL_some rfl rfl rfl ?_)
    refine op_load_agg (c' := #[.int .i64 c.kind, .string (str c.name), .string (str c.to), .pointer ip]) T rfl rfl rfl rfl hbw (by show k * 4 + 4 ≤ cur.length; omega) (by show ((cur.drop (k * 4)).take 4).toArray = _; rw [hchunk]) ?_
    repeat (refine WL_some rfl rfl rfl ?_)
    refine op_alloc T rfl rfl (fun g9 w3 hs3 hc3 hg3 => ?_)
    repeat (first | refine WL_some rfl rfl rfl ?_ | refine WL_none rfl rfl ?_ | refine op_assign rfl rfl ?_)
    refine op_store_agg T rfl rfl rfl rfl rfl rfl hg3 (Nat.le_of_ble_eq_true rfl) (fun w4 hc4 hg4 _ => ?_)
    have hg4 : Blk w4 g9 108 [.int .i64 c.kind, .string (str c.name), .string (str c.to), .pointer ip] := hg4
    have hc24 : Chg [] w2 w4 := hc3.trans hc4 (fun j hj hlt => by simp at hj; omega)
    have hb4 := hb2.keep0 hc24
    have hm4 := hm2.keep0 hc24
    by_cases hkn : (k : Int) < n
    · obtain ⟨hd, hf⟩ := crashTo_fit x.ok hck hkn
      have hids := x.ok.replay.ids c (List.mem_of_getElem? hck)
      repeat (first | refine W_seq ?_ | refine W_region ?_ | refine Then_n ?_ | refine WL_nil ?_ | refine W_condT rfl ?_ | refine WL_some rfl rfl rfl ?_ | refine op_move rfl rfl ?_ | refine op_lss rfl rfl rfl (fun hc => ?_) (fun hc => False.elim (by omega)))
      refine W_walk 5 [] fol (by kernel_rfl) (by kernel_rfl) ?_
      refine Walk.plain rfl (by intro val w_ hR hp; exact op_move rfl rfl ⟨Chg.refl _ _, rfl⟩) ?_; dsimp only [List.nil_append, List.cons_append]
      refine Walk.plain rfl (by intro val w_ hR hp; exact op_nilCheck rfl rfl ⟨Chg.refl _ _, rfl⟩) ?_; dsimp only [List.nil_append, List.cons_append]
      refine Walk.plain rfl (by intro val w_ hR hp; exact op_fieldAddr T rfl rfl rfl rfl rfl rfl rfl rfl ⟨Chg.refl _ _, rfl⟩) ?_; dsimp only [List.nil_append, List.cons_append]
      refine Walk.plain rfl (by intro val w_ hR hp; exact op_load T rfl rfl rfl rfl ((Blk.keep0 hb4 hR).cell rfl) ⟨Chg.refl _ _, rfl⟩) ?_; dsimp only [List.nil_append, List.cons_append]
      refine Walk.plain rfl (by intro val w_ hR hp; exact op_load_agg T rfl rfl rfl rfl (Blk.keep0 hg4 hR) (Nat.le_of_ble_eq_true rfl) rfl ⟨Chg.refl _ _, rfl⟩) ?_; dsimp only [List.nil_append, List.cons_append]
      refine Walk.fin ?_
      intro val w5 hc5 _
      have hm5 := hm4.keep0 hc5
      have hdo := do_has m p.fb (crashTo s n k) c w5 hm5 (by rw [x.len]; exact hd) hf (by rw [x.len]; exact hids)
      rw [hcv] at hdo
      refine WL_sub (e' := [(1, .int .i64 n), (2, .slice (At) tails.length ct), (7, .pointer (some ⟨gc, 0, none⟩)), (31, .slice (some ⟨gw, 0, none⟩) s.waits.length cw), (32, .int .i64 s.waits.length), (33, .int .i64 k), (44, .map (some m)), (45, .agg #[.int .i64 c.kind, .string (str c.name), .string (str c.to), .pointer ip])]) ⟨rfl, rfl, rfl, rfl, rfl, rfl, rfl, rfl, trivial⟩ ?_
      repeat (refine WL_some rfl rfl rfl ?_)
      refine op_call rfl rfl rfl hdo ?_
      rintro v w6 ⟨hc6, hm6⟩
      rw [← crashTo_step hck hkn] at hm6
      repeat (first | refine W_region ?_ | refine Then_n ?_ | refine InBlock_n ?_ | refine WL_nil ?_ | refine WL_some rfl rfl rfl ?_ | refine op_move rfl rfl ?_ | refine op_add rfl rfl rfl (wrap_i64_in (by omega) (by omega)) ?_)
      exact Round_n (k + 1) ⟨rfl, rfl, rfl, rfl, rfl, rfl, trivial⟩ ⟨by omega, ((hc2.trans' hc24).trans' hc5).trans hc6 (fun j hj hlt => by simp at hj; omega), (hb4.keep0 hc5).keep hc6 (by simpa using fun e => hm5.ne_blk (hb4.keep0 hc5) e.symm), hm6⟩ (by omega)
    · repeat (first | refine W_seq ?_ | refine W_region ?_ | refine W_skip ?_ | refine Then_n ?_ | refine InBlock_n ?_ | refine WL_nil ?_ | refine W_condF rfl ?_ | refine WL_some rfl rfl rfl ?_ | refine op_move rfl rfl ?_ | refine op_add rfl rfl rfl (wrap_i64_in (by omega) (by omega)) ?_ | refine op_lss rfl rfl rfl (fun hc => False.elim (by omega)) (fun hc => ?_))
      exact Round_n (k + 1) ⟨rfl, rfl, rfl, rfl, rfl, rfl, trivial⟩ ⟨by omega, hc2.trans' hc24, hb4, by rw [crashTo_stop hkn]; exact hm4⟩ (by omega)
  obtain rfl : k = s.waits.length := by omega
  rw [crashTo_end] at hm2
  have hd := crashDir_ok x.ok n
  have hfew := hd.few
  have hnd := hd.up.nodup
  have hcr : crashM s n tails = ⟨s.room, 0, -1, crashFiles s (crashDir s n) tails, (crashDir s n).mapIdx fun j p => (p.1, j), (crashDir s n).mapIdx fun j p => (p.1, j), []⟩ := rfl
  have hok := crashM_ok x.ok n tails
  rw [hcr] at hok ⊢
  clear hcr
  have hdl : DirOk p.fb.length (crashDir s n) := by rw [x.len]; exact hd
  generalize crashDir s n = d at hm2 hd hfew hnd hok hdl ⊢
  repeat (first | refine W_seq ?_ | refine W_region ?_ | refine W_exit ?_ | refine Then_n ?_ | refine Then_x ?_ | refine InBlock_hit ?_ | refine Round_x ?_ | refine WL_nil ?_ | refine W_condF rfl ?_ | refine WL_some rfl rfl rfl ?_ | refine op_move rfl rfl ?_ | refine op_nilCheck rfl rfl ?_ | refine op_lss rfl rfl rfl (fun hc => False.elim (by omega)) (fun hc => ?_) | refine op_fieldAddr T rfl rfl rfl rfl rfl rfl rfl rfl ?_ | refine op_loadB T rfl rfl rfl rfl (by assumption) (by exact rfl) ?_)
  refine op_call rfl rfl rfl (keysD_has m w2) ?_
  rintro _ _ ⟨rfl, rfl⟩
  repeat (refine WL_some rfl rfl rfl ?_)
  refine op_call rfl rfl rfl (sortedD_has hm2 (d.map (·.1)) (fun k hk => ?_) (by simp; omega)) ?_
  · have hmem := (at2_isSome hdl k).1 hk
    refine ⟨hmem, ?_⟩
    obtain ⟨q, hq, rfl⟩ := List.mem_map.1 hmem
    have := (hd.name q hq).1
    unfold maxLen; omega
  rintro nv w3 ⟨hc3, ss, hn, hs, ho, hfr⟩
  have hp : ss.Perm (d.map (·.1)) := (List.perm_ext_iff_of_nodup hn hnd).2 fun k => by rw [hs, at2_isSome hdl]
  rw [sorted_eq hp hd.up] at ho
  have hlen : ss.length = d.length := by rw [hp.length_eq, List.length_map]
  rw [hlen] at ho
  clear hp hlen hn hs ss
  have hfr' : ∀ h, nv.ownBlock = some h → w.heap.size ≤ h := fun h hh => by have := hfr h hh; have := hc2.size; omega
  obtain ⟨An, cn, rfl, hn1, hn2⟩ := ho.form
  have hm3 : MapAt keyV ptrV w3 m (hAt p.fb [] d) := (hm2.keep0 hc3).congr (fun k => (hAt_start _ _ _).symm)
  have hb3 := hb2.keep0 hc3
  have hc03 := hc2.trans' hc3
  repeat (first | refine W_block ?_ | refine Then_n ?_ | refine WL_nil ?_ | refine WL_some rfl rfl rfl ?_ | refine op_move rfl rfl ?_ | refine op_len_slice T rfl rfl rfl rfl ?_)
  refine W_loop (σ := List (Nat × Value)) (fun nb => [(2, .slice At tails.length ct), (7, .pointer (some ⟨gc, 0, none⟩)), (53, .slice An d.length cn), (54, .int .i64 d.length), (55, .int .i64 nb.length)])
    (fun (nb : List (Nat × Value)) w' => nb.length ≤ d.length ∧ Chg [] w w' ∧ Blk w' gc 86 [.int .i64 s.room, .map none, .map (some m), .slice none 0 0, .int .i64 0, .int .i64 (-1)] ∧ MapAt keyV ptrV w' m (hAt p.fb nb d) ∧ NewFiles w w' s d tails nb ∧ Own w' 9 1 (.slice An d.length cn) d.length ((d.map (·.1)).map keyV)) (fun nb => d.length - nb.length) []
    ⟨rfl, rfl, rfl, rfl, rfl, trivial⟩ ⟨by simp, hc03, hb3, hm3, ⟨(fun j q r h => by simp at h), (fun j q r h => by simp at h), (fun q hq => by cases hq), List.nodup_nil, (fun i j q q' h h1 => by simp at h1)⟩, ho⟩ ?_
  clear hb2 hm2 hb3 hm3 hc3 hc03 ho hfr hk hkl hc2
  rintro nb w4 ⟨hnl, hc4, hb4, hm4, hnf, ho4⟩
  by_cases hj : nb.length < d.length
  · have hr : d[nb.length]? = some d[nb.length] := List.getElem?_eq_getElem hj
    generalize d[nb.length] = r at hr
    have x4 := x.keep0 hc4
    have hri := (hdl.name r (List.mem_of_getElem? hr)).2
    have hq : p.fb[r.2]? = some p.fb[r.2] := List.getElem?_eq_getElem hri
    generalize p.fb[r.2] = q at hq
    obtain ⟨f, hfi⟩ : ∃ f, s.files[r.2]? = some f := ⟨_, List.getElem?_eq_getElem (by rw [← x.len]; exact hri)⟩
    have hfo := x.ok.files f (List.mem_of_getElem? hfi)
    obtain ⟨gn, hgn, ⟨cn', hvn⟩, hcell⟩ := ho4.cell (j := nb.length) (u := keyV r.1) (by rw [List.getElem?_map, List.getElem?_map, hr]; rfl)
    injection hvn with e1 _ e3
    subst e1
    have hcell : w4.cell? ⟨gn, nb.length, none⟩ = some (.string (str r.1)) := hcell
    have hbf := x4.fblk r.2 q f hq hfi
    have hof := x4.fown r.2 q f hq hfi
    obtain ⟨Aq, cq, hqv, hq1, hq2⟩ := hof.form
    rw [hqv] at hbf hof
    have htl := tailOf_le f tails nb.length hfo.1
    have htl0 : f.synced ≤ tailOf f tails nb.length := by unfold tailOf; omega
    have hat := hAt_at hnd hr hq
    repeat (first | refine W_seq ?_ | refine W_block ?_ | refine W_region ?_ | refine W_skip ?_ | refine Then_n ?_ | refine WL_nil ?_ | refine W_condT rfl ?_ | refine WL_some rfl rfl rfl ?_ | refine op_move rfl rfl ?_ | refine op_assign rfl rfl ?_ | refine op_nilCheck rfl rfl ?_ | refine op_index_own T rfl rfl rfl rfl rfl rfl (by omega) ?_ | refine op_load T rfl rfl rfl rfl (by assumption) ?_ | refine op_lss rfl rfl rfl (fun hc => ?_) (fun hc => False.elim (by omega)) | refine op_fieldAddr T rfl rfl rfl rfl rfl rfl rfl rfl ?_ | refine op_loadB T rfl rfl rfl rfl (by assumption) (by exact rfl) ?_)
    refine op_lookup_v T strKey rfl rfl rfl rfl rfl rfl hm4 (v := ptrV q.1) (fun b hb => by rw [hat] at hb; injection hb with hb; rw [hb]) (fun hn => by rw [hat] at hn; cases hn) ?_
    unfold ptrV
    repeat (first | refine W_seq ?_ | refine W_region ?_ | refine Then_n ?_ | refine WL_nil ?_ | refine WL_some rfl rfl rfl ?_ | refine op_move rfl rfl ?_ | refine op_assign rfl rfl ?_ | refine op_len_slice T rfl rfl rfl rfl ?_)
    refine op_lss_b rfl rfl rfl ?_
    repeat (first | refine Then_n ?_ | refine WL_nil ?_)
    refine W_meet (σ := Unit) (fun _ => [(2, .slice At tails.length ct), (7, .pointer (some ⟨gc, 0, none⟩)), (53, .slice (some ⟨gn, 0, none⟩) d.length cn), (54, .int .i64 d.length), (55, .int .i64 nb.length), (11, .string (str r.1)), (12, .pointer (some ⟨q.1, 0, none⟩)), (13, .int .i64 ((tailOf f tails nb.length - f.synced : Nat) : Int))]) (fun _ w' => Chg [] w4 w') ?_ ?_
    · refine W_cond rfl (fun h => ?_) (fun h => ?_)
      · have hjt : nb.length < tails.length := by have := of_decide_eq_true h; omega
        have htj : tails[nb.length]? = some tails[nb.length] := List.getElem?_eq_getElem hjt
        generalize tails[nb.length] = tj at htj
        obtain ⟨ad, u, rfl, hu, rfl, hu1, hu2⟩ := (SliceOf.kept Ri64.kept _ _ _ _ hc4 ht).get htj
        have hsyn := hfo.1
        have hfl := hfo.2
        skip
        refine W_walk 16 [] fol (by kernel_rfl) (by kernel_rfl) ?_
        refine Walk.plain rfl (by intro val w_ hR hp; exact op_move rfl rfl ⟨Chg.refl _ _, rfl⟩) ?_; dsimp only [List.nil_append, List.cons_append]
        refine Walk.plain rfl (by intro val w_ hR hp; exact op_move rfl rfl ⟨Chg.refl _ _, rfl⟩) ?_; dsimp only [List.nil_append, List.cons_append]
        refine Walk.plain rfl (by intro val w_ hR hp; exact op_index_nat T rfl rfl rfl rfl rfl rfl (by omega) ⟨Chg.refl _ _, rfl⟩) ?_; dsimp only [List.nil_append, List.cons_append]
        refine Walk.plain rfl (by intro val w_ hR hp; exact op_load T rfl rfl rfl rfl (hR.cell0 (by assumption)) ⟨Chg.refl _ _, rfl⟩) ?_; dsimp only [List.nil_append, List.cons_append]
        refine Walk.plain rfl (by intro val w_ hR hp; exact op_max rfl rfl rfl ⟨Chg.refl _ _, rfl⟩) ?_; dsimp only [List.nil_append, List.cons_append]
        refine Walk.plain rfl (by intro val w_ hR hp; exact op_move rfl rfl ⟨Chg.refl _ _, rfl⟩) ?_; dsimp only [List.nil_append, List.cons_append]
        refine Walk.plain rfl (by intro val w_ hR hp; exact op_nilCheck rfl rfl ⟨Chg.refl _ _, rfl⟩) ?_; dsimp only [List.nil_append, List.cons_append]
        refine Walk.plain rfl (by intro val w_ hR hp; exact op_fieldAddr T rfl rfl rfl rfl rfl rfl rfl rfl ⟨Chg.refl _ _, rfl⟩) ?_; dsimp only [List.nil_append, List.cons_append]
        refine Walk.plain rfl (by intro val w_ hR hp; exact op_load T rfl rfl rfl rfl ((Blk.keep0 hbf hR).cell rfl) ⟨Chg.refl _ _, rfl⟩) ?_; dsimp only [List.nil_append, List.cons_append]
        refine Walk.plain rfl (by intro val w_ hR hp; exact op_len_slice T rfl rfl rfl rfl ⟨Chg.refl _ _, rfl⟩) ?_; dsimp only [List.nil_append, List.cons_append]
        refine Walk.plain rfl (by intro val w_ hR hp; exact op_move rfl rfl ⟨Chg.refl _ _, rfl⟩) ?_; dsimp only [List.nil_append, List.cons_append]
        refine Walk.plain rfl (by intro val w_ hR hp; exact op_nilCheck rfl rfl ⟨Chg.refl _ _, rfl⟩) ?_; dsimp only [List.nil_append, List.cons_append]
        refine Walk.plain rfl (by intro val w_ hR hp; exact op_fieldAddr T rfl rfl rfl rfl rfl rfl rfl rfl ⟨Chg.refl _ _, rfl⟩) ?_; dsimp only [List.nil_append, List.cons_append]
        refine Walk.plain rfl (by intro val w_ hR hp; exact op_load T rfl rfl rfl rfl ((Blk.keep0 hbf hR).cell rfl) ⟨Chg.refl _ _, rfl⟩) ?_; dsimp only [List.nil_append, List.cons_append]
        refine Walk.plain rfl (by intro val w_ hR hp; exact op_subt rfl rfl rfl (wrap_i64_in (by omega) (by omega)) ⟨Chg.refl _ _, rfl⟩) ?_; dsimp only [List.nil_append, List.cons_append]
        refine Walk.plain rfl (by intro val w_ hR hp; exact op_min rfl rfl rfl ⟨Chg.refl _ _, rfl⟩) ?_; dsimp only [List.nil_append, List.cons_append]
        refine Walk.fin ?_
        intro val w5 hc5 _
        have hval : min (max tj 0) ((f.b.length : Int) - (f.synced : Int)) = ((tailOf f tails nb.length - f.synced : Nat) : Int) := by
          unfold tailOf
          rw [htj]
          simp only
          have hmm : ((min (max tj 0).toNat (f.b.length - f.synced) : Nat) : Int) = min (max tj 0) ((f.b.length : Int) - (f.synced : Int)) := by
            by_cases h1 : (max tj 0).toNat ≤ f.b.length - f.synced
            · rw [Nat.min_eq_left h1]; omega
            · rw [Nat.min_eq_right (by omega)]; omega
          rw [Nat.add_sub_cancel_left, hmm]
        refine WL_sub (e' := [(2, .slice (some ad) tails.length ct), (7, .pointer (some ⟨gc, 0, none⟩)), (53, .slice (some ⟨gn, 0, none⟩) d.length cn), (54, .int .i64 d.length), (55, .int .i64 nb.length), (11, .string (str r.1)), (12, .pointer (some ⟨q.1, 0, none⟩)), (85, .int .i64 ((tailOf f tails nb.length - f.synced : Nat) : Int))]) ⟨rfl, rfl, rfl, rfl, rfl, rfl, rfl, some_int hval, trivial⟩ ?_
        repeat (first | refine WL_nil ?_ | refine WL_some rfl rfl rfl ?_ | refine op_assign rfl rfl ?_)
        exact Meet_n () ⟨rfl, rfl, rfl, rfl, rfl, rfl, rfl, rfl, trivial⟩ hc5
      · have hjt : tails[nb.length]? = none := List.getElem?_eq_none_iff.2 (by have := of_decide_eq_false h; omega)
        have hz : tailOf f tails nb.length - f.synced = 0 := by unfold tailOf; rw [hjt]; simp
        rw [hz]
        repeat (refine W_skip ?_)
        exact Meet_n () ⟨rfl, rfl, rfl, rfl, rfl, rfl, rfl, rfl, trivial⟩ (Chg.refl _ _)
    intro _ w5 hc5
    have hbf5 := hbf.keep0 hc5
    have hof5 := hof.keep0 hc5
    have hm5 := hm4.keep0 hc5
    have hb5 := hb4.keep0 hc5
    have hnf5 := hnf.keep hnl hc5 (fun k hk => by cases hk)
    have ho5 := ho4.keep0 hc5
    have hfl := hfo.2
    repeat (first | refine W_seq ?_ | refine Then_n ?_)
    refine W_walk 12 [] fol (by kernel_rfl) (by kernel_rfl) ?_
    refine Walk.plain rfl (by intro val w_ hR hp; exact op_move rfl rfl ⟨Chg.refl _ _, rfl⟩) ?_; dsimp only [List.nil_append, List.cons_append]
    refine Walk.plain rfl (by intro val w_ hR hp; exact op_nilCheck rfl rfl ⟨Chg.refl _ _, rfl⟩) ?_; dsimp only [List.nil_append, List.cons_append]
    refine Walk.plain rfl (by intro val w_ hR hp; exact op_fieldAddr T rfl rfl rfl rfl rfl rfl rfl rfl ⟨Chg.refl _ _, rfl⟩) ?_; dsimp only [List.nil_append, List.cons_append]
    refine Walk.plain rfl (by intro val w_ hR hp; exact op_load T rfl rfl rfl rfl ((Blk.keep0 hbf5 hR).cell rfl) ⟨Chg.refl _ _, rfl⟩) ?_; dsimp only [List.nil_append, List.cons_append]
    refine Walk.plain rfl (by intro val w_ hR hp; exact op_move rfl rfl ⟨Chg.refl _ _, rfl⟩) ?_; dsimp only [List.nil_append, List.cons_append]
    refine Walk.plain rfl (by intro val w_ hR hp; exact op_nilCheck rfl rfl ⟨Chg.refl _ _, rfl⟩) ?_; dsimp only [List.nil_append, List.cons_append]
    refine Walk.plain rfl (by intro val w_ hR hp; exact op_fieldAddr T rfl rfl rfl rfl rfl rfl rfl rfl ⟨Chg.refl _ _, rfl⟩) ?_; dsimp only [List.nil_append, List.cons_append]
    refine Walk.plain rfl (by intro val w_ hR hp; exact op_load T rfl rfl rfl rfl ((Blk.keep0 hbf5 hR).cell rfl) ⟨Chg.refl _ _, rfl⟩) ?_; dsimp only [List.nil_append, List.cons_append]
    refine Walk.plain rfl (by intro val w_ hR hp; exact op_move rfl rfl ⟨Chg.refl _ _, rfl⟩) ?_; dsimp only [List.nil_append, List.cons_append]
    refine Walk.plain rfl (by intro val w_ hR hp; exact op_add rfl rfl rfl (wrap_i64_in (by omega) (by omega)) ⟨Chg.refl _ _, rfl⟩) ?_; dsimp only [List.nil_append, List.cons_append]
    refine Walk.plain (v := .slice Aq (tailOf f tails nb.length) cq) rfl (by intro val w_ hR hp; exact op_slice_to T (h' := tailOf f tails nb.length) (k := .i64) rfl rfl (some_int (by omega)) rfl rfl (by omega) ⟨Chg.refl _ _, rfl⟩) ?_; dsimp only [List.nil_append, List.cons_append]
    have hcut : SliceOf Ru8 w5 (.slice Aq (tailOf f tails nb.length) cq) (f.b.take (tailOf f tails nb.length)) := hof5.bytes.take (by omega)
    have hclen : (f.b.take (tailOf f tails nb.length)).length = tailOf f tails nb.length := by rw [List.length_take]; omega
    refine Walk.rel (fun u w_ => Own w_ 5 1 u (tailOf f tails nb.length) (u8s (f.b.take (tailOf f tails nb.length))) ∧ ∀ h, u.ownBlock = some h → w5.heap.size ≤ h) rfl (fun u a b h hab => ⟨h.1.keep0 hab, h.2⟩) ?_ ?_
    · intro val w_ hR hp
      refine op_call rfl rfl rfl (clone_has Aq _ cq (f.b.take (tailOf f tails nb.length)) w_ (SliceOf.kept Ru8.kept _ _ _ _ hR hcut) (by rw [hclen]; omega)) ?_
      rintro v w' ⟨hc, ho, hf⟩
      rw [hclen] at ho
      exact ⟨hc, ho, fun h hh => by have := hf h hh; have := hR.size; omega⟩
    dsimp only [List.nil_append, List.cons_append]
    refine Walk.fin ?_
    intro val w6 hc6 hp
    obtain ⟨hu6, huf6⟩ : Own w6 5 1 (val 11) (tailOf f tails nb.length) (u8s (f.b.take (tailOf f tails nb.length))) ∧ ∀ h, (val 11).ownBlock = some h → w5.heap.size ≤ h := hp 11 (by omega) _ _ rfl rfl
    clear hp
    refine WL_sub (e' := [(2, .slice At tails.length ct), (7, .pointer (some ⟨gc, 0, none⟩)), (53, .slice (some ⟨gn, 0, none⟩) d.length cn), (54, .int .i64 d.length), (55, .int .i64 nb.length), (11, .string (str r.1)), (97, val 11)]) ⟨rfl, rfl, rfl, rfl, rfl, rfl, rfl, trivial⟩ ?_
    generalize val 11 = uv at hu6 huf6
    obtain ⟨Au, cu, rfl, _, _⟩ := hu6.form
    have hb6 := hb5.keep0 hc6
    have hm6 := hm5.keep0 hc6
    have hnf6 := hnf5.keep hnl hc6 (fun k hk => by cases hk)
    have ho6 := ho5.keep0 hc6
    repeat (first | refine W_region ?_ | refine Then_n ?_ | refine WL_nil ?_ | refine WL_some rfl rfl rfl ?_ | refine op_move rfl rfl ?_ | refine op_assign rfl rfl ?_ | refine op_len_slice T rfl rfl rfl rfl ?_ | refine op_nilCheck rfl rfl ?_ | refine op_fieldAddr T rfl rfl rfl rfl rfl rfl rfl rfl ?_ | refine op_build T rfl rfl rfl rfl rfl rfl ?_ | refine op_loadB T rfl rfl rfl rfl (by assumption) (by exact rfl) ?_)
    refine op_box rfl rfl (fun gf w7 hs7 hc7 hg7 => ?_)
    have hg7 : Blk w7 gf 106 [.slice Au (tailOf f tails nb.length) cu, .int .i64 (tailOf f tails nb.length : Nat)] := hg7
    have hb7 := hb6.keep0 hc7
    have hm7 := hm6.keep0 hc7
    have hnf7 := hnf6.keep hnl hc7 (fun k hk => by cases hk)
    have ho7 := ho6.keep0 hc7
    have hu7 := hu6.keep0 hc7
    repeat (refine WL_none rfl rfl ?_)
    refine op_mapUpdate T strKey (bv := ptrV) (b := gf) rfl rfl rfl rfl rfl rfl hm7 (fun w8 hc8 hm8 _ => ?_)
    have hmb : ∀ k ∈ [m], ∀ t cs, ¬ Blk w7 k t cs := fun k hk t cs hbk => by simp at hk; subst hk; exact hm7.ne_blk hbk rfl
    have hcf : cutM ((s.files[r.2]?).getD ⟨[], 0⟩) tails nb.length = ⟨f.b.take (tailOf f tails nb.length), tailOf f tails nb.length⟩ := by rw [hfi]; rfl
    have hs45 := hc5.size
    have hs56 := hc6.size
    have hs67 := hc7.size
    have hs04 := hc4.size
    have hnf8 : NewFiles w w8 s d tails (nb ++ [(gf, .slice Au (tailOf f tails nb.length) cu)]) := by
      refine (hnf7.keep hnl hc8 hmb).snoc hr ?_ ?_ (by omega) (fun h hh => by have := huf6 h hh; omega) (fun q hq e => ?_) (fun q hq h hh e => ?_)
      · rw [hcf]; exact hg7.keep hc8 (fun hm => hmb _ hm _ _ hg7)
      · rw [hcf, hclen]
        exact hu7.keep hc8 (fun h hh hm => by
          obtain ⟨cur, hr⟩ := hu7.row hh
          exact hmb _ hm _ _ hr)
      · have := (hnf6.fresh q hq).2.1; omega
      · have h1 := huf6 h e
        have h2 := ((hnf.fresh q hq).2.2 h hh).2
        omega
    repeat (first | refine W_region ?_ | refine Then_n ?_ | refine InBlock_n ?_ | refine WL_nil ?_ | refine WL_some rfl rfl rfl ?_ | refine op_move rfl rfl ?_ | refine op_add rfl rfl rfl (wrap_i64_in (by omega) (by omega)) ?_)
    refine Round_n (nb ++ [(gf, .slice Au (tailOf f tails nb.length) cu)]) ⟨rfl, rfl, rfl, rfl, ?_, trivial⟩ ⟨by rw [List.length_append]; simp; omega, ((((hc4.trans' hc5).trans' hc6).trans' hc7).trans hc8 (fun j hj hlt => by simp at hj; omega)), hb7.keep hc8 (fun hm => hmb _ hm _ _ hb7), hm8.congr (fun k => (hAt_step hnd hr (gf, .slice Au (tailOf f tails nb.length) cu) k).symm), hnf8, ho7.keep hc8 (fun h hh hm => by
      obtain ⟨cur, hr⟩ := ho7.row hh
      exact hmb _ hm _ _ hr)⟩ (by rw [List.length_append]; simp; omega)
    rw [List.length_append]
    exact some_int (by simp)
  have hnl' : nb.length = d.length := by omega
  repeat (first | refine W_seq ?_ | refine W_region ?_ | refine W_exit ?_ | refine Then_n ?_ | refine Then_x ?_ | refine InBlock_hit ?_ | refine Round_x ?_ | refine WL_nil ?_ | refine W_condF rfl ?_ | refine WL_some rfl rfl rfl ?_ | refine op_move rfl rfl ?_ | refine op_nilCheck rfl rfl ?_ | refine op_lss rfl rfl rfl (fun hc => False.elim (by omega)) (fun hc => ?_) | refine op_fieldAddr T rfl rfl rfl rfl rfl rfl rfl rfl ?_ | refine op_loadB T rfl rfl rfl rfl (by assumption) (by exact rfl) ?_)
  refine op_call rfl rfl rfl (cloneD_has hm4) ?_
  rintro _ w5 ⟨md, rfl, hmd, hc5, hm5⟩
  have hb5 := hb4.keep0 hc5
  have hml5 := hm4.keep0 hc5
  have hnf5 := hnf.keep hnl hc5 (fun k hk => by cases hk)
  repeat (first | refine WL_some rfl rfl rfl ?_ | refine WL_none rfl rfl ?_ | refine op_nilCheck rfl rfl ?_ | refine op_fieldAddr T rfl rfl rfl rfl rfl rfl rfl rfl ?_)
  refine op_store T rfl rfl rfl rfl rfl rfl hb5 (Nat.le_of_ble_eq_true rfl) (fun w6 hc6 hb6 _ => ?_)
  have hgrow : ∀ k ∈ [gc], ∀ t cs, Blk w5 k t cs → t = 86 := fun k hk t cs hbk => by
    simp at hk; subst hk
    exact Classical.byContradiction fun hne => hbk.ne_ hb5 hne rfl
  repeat (first | refine W_seq ?_ | refine W_region ?_ | refine W_ret ?_ | refine Then_n ?_ | refine WL_nil ?_ | refine WL_some rfl rfl rfl ?_ | refine op_move rfl rfl ?_ | refine op_assign rfl rfl ?_)
  have hs4 := hc4.size
  have hs5 := hc5.size
  have hml := hm4.lt
  refine post1 (.inl rfl) rfl rfl ⟨(hc4.trans' hc5).trans hc6 (fun j hj hlt => by simp at hj; omega), gc, ⟨md, m, .slice none 0 0, nb⟩, rfl, ⟨hok, hb6, ?_, ?_, Own.nil _ _ _, ?_, fun j q f hq hf => ?_, fun j q f hq hf => ?_, (show md ≠ m by omega), hnf.apart2, hnf.apart3⟩, fun k hk => ?_⟩
  · exact (hm5.keep hc6 (by simpa using hm5.ne_blk hb5)).congr (fun k => hAt_end hnl' k)
  · exact (hml5.keep hc6 (by simpa using hml5.ne_blk hb5)).congr (fun k => hAt_end hnl' k)
  · show nb.length = (crashFiles s d tails).length
    unfold crashFiles
    simpa using hnl'
  · have hjl : j < d.length := by rw [← hnl']; exact (List.getElem?_eq_some_iff.1 hq).1
    have hr : d[j]? = some d[j] := List.getElem?_eq_getElem hjl
    have hf' : f = cutM ((s.files[d[j].2]?).getD ⟨[], 0⟩) tails j := by
      have hf : (crashFiles s d tails)[j]? = some f := hf
      unfold crashFiles at hf
      rw [List.getElem?_mapIdx, hr] at hf
      injection hf with hf; exact hf.symm
    rw [hf']
    have h1 := hnf5.blk j q _ hq hr
    exact h1.keep hc6 (fun hm => by have := hgrow _ hm _ _ h1; exact absurd this (by decide))
  · have hjl : j < d.length := by rw [← hnl']; exact (List.getElem?_eq_some_iff.1 hq).1
    have hr : d[j]? = some d[j] := List.getElem?_eq_getElem hjl
    have hf' : f = cutM ((s.files[d[j].2]?).getD ⟨[], 0⟩) tails j := by
      have hf : (crashFiles s d tails)[j]? = some f := hf
      unfold crashFiles at hf
      rw [List.getElem?_mapIdx, hr] at hf
      injection hf with hf; exact hf.symm
    rw [hf']
    have h1 := hnf5.own j q _ hq hr
    exact h1.keep hc6 (fun h hh hm => by
      obtain ⟨cur, hrr⟩ := h1.row hh
      have := hgrow _ hm _ _ hrr; exact absurd this (by decide))
  · rcases FsP.mem_fp.1 hk with h | h | h | h | ⟨q, hq, h⟩
    · omega
    · have h : k = md := h
      omega
    · have h : k = m := h
      omega
    · cases h
    · have h5 := hnf.fresh q hq
      rcases h with rfl | h
      · exact h5.1
      · exact (h5.2.2 k h).1
end Go.Proofs.YtiadjkjlifnopaaGreatDoor.Tryz
/-! Files: of the call's own; one file. -/
set_option linter.unusedVariables false
set_option linter.unusedSimpArgs false
namespace Go.Proofs.YtiadjkjlifnopaaGreatDoor.Tryz
open Go Go.Vc

/-- A file system that was made since w0; of what lay there nothing has turned. -/
structure FsO (w0 w : World) (g : Nat) (s : FsM) (p : FsP) : Prop where
  chg : Chg [] w0 w
  at_ : FsAt w g s p
  fresh : ∀ k ∈ p.fp g, w0.heap.size ≤ k
section
variable {w0 w w' : World} {g : Nat} {s : FsM} {p : FsP}
theorem FsO.keep0 (x : FsO w0 w g s p) (hc : Chg [] w w') : FsO w0 w' g s p := ⟨x.chg.trans' hc, x.at_.keep0 hc, x.fresh⟩
theorem FsO.base {w1 : World} (x : FsO w1 w g s p) (hc : Chg [] w0 w1) : FsO w0 w g s p := ⟨hc.trans' x.chg, x.at_, fun k hk => by have := x.fresh k hk; have := hc.size; omega⟩
theorem FsO.chgFp (x : FsO w0 w g s p) (hc : Chg (p.fp g) w w') : Chg [] w0 w' := x.chg.trans hc (fun k hk hlt => by have := x.fresh k hk; omega)
/-- A row made behind it, whatever becomes of it. -/
theorem FsO.row (x : FsO w0 w g s p) {w1 : World} (hc : Chg [] w w1) {gb : Nat} (hs : w.heap.size ≤ gb) {vs : List Value} {t : TypeId} {fr : Nat × Nat} (hg : w1.heap[gb]? = some (.cells vs.toArray t fr)) {n c : Nat} {L : List UInt8} (hn : n = L.length) (hnc : n ≤ c) (hcm : c ≤ maxLen)
    (h : ∀ (i : Nat) (y : UInt8), L[i]? = some y → ∃ u, vs[i]? = some u ∧ Ru8 w u y) : Firm (p.fp g) w1 (fun w => SliceOf Ru8 w (.slice (some ⟨gb, 0, none⟩) n c) L) := fun w2 h2 =>
  SliceOf.of_heap ((h2.keep gb (Array.getElem?_eq_some_iff.1 hg).1 (fun hm => by have := x.at_.lt gb hm; omega)).trans hg) hn hnc hcm (fun i y hy => by
    obtain ⟨u, h1, h2⟩ := h i y hy
    exact ⟨u, h1, h2⟩)
theorem FsO.done (x : FsO w0 w g s p) {r : FsM × Int} {v : Value} (h : FsDone w g p r v w') : v = .int .i64 r.2 ∧ ∃ p', FsO w0 w' g r.1 p' := by
  obtain ⟨h1, h2, p', h3, h4⟩ := h
  exact ⟨h2, p', x.chgFp h1, h3, fun k hk => by
    rcases h4 k hk with h | h
    · exact x.fresh k h
    · have := x.chg.size; omega⟩
end
theorem newO_has (n : Int) (w : World) : Has Go.Proofs.Tryz.prog 18 #[.int .i64 n] w (fun v w' => ∃ g p, v = ptrV g ∧ FsO w w' g (newM n) p) :=
  (newFs_has n w).mono fun v w' ⟨hc, g, p, hv, hx, hf⟩ => ⟨g, p, hv, hc, hx, hf⟩
theorem createO_has {w0 w : World} {g : Nat} {s : FsM} {p : FsP} (x : FsO w0 w g s p) (k : Nm) (hk : k.length ≤ maxLen) (hcalls : s.calls < 1000000000 - 1) :
    Has Go.Proofs.Tryz.prog 20 #[ptrV g, .string (str k)] w (fun v w' => v = .int .i64 (createM s k).2 ∧ ∃ p', FsO w0 w' g (createM s k).1 p') := (create_has g s p k w x.at_ hk hcalls).mono fun _ _ h => x.done h
theorem appendO_has {w0 w : World} {g : Nat} {s : FsM} {p : FsP} (x : FsO w0 w g s p) (k : Nm) {A : Option Addr} {n c : Nat} {b : List UInt8} (hb : Firm (p.fp g) w (fun w => SliceOf Ru8 w (.slice A n c) b)) (hbl : b.length ≤ 1000000000) (hcalls : s.calls < 1000000000 - 1) :
    Has Go.Proofs.Tryz.prog 29 #[ptrV g, .string (str k), .slice A n c] w (fun v w' => v = .int .i64 (appendM s k b).2 ∧ ∃ p', FsO w0 w' g (appendM s k b).1 p') := (append_has g s p k A n c b w x.at_ hb hbl hcalls).mono fun _ _ h => x.done h
theorem syncO_has {w0 w : World} {g : Nat} {s : FsM} {p : FsP} (x : FsO w0 w g s p) (k : Nm) (hcalls : s.calls < 1000000000 - 1) :
    Has Go.Proofs.Tryz.prog 40 #[ptrV g, .string (str k)] w (fun v w' => v = .int .i64 (syncM s k).2 ∧ ∃ p', FsO w0 w' g (syncM s k).1 p') := (sync_has g s p k w x.at_ hcalls).mono fun _ _ h => x.done h
theorem syncDirO_has {w0 w : World} {g : Nat} {s : FsM} {p : FsP} (x : FsO w0 w g s p) (hcalls : s.calls < 1000000000 - 1) :
    Has Go.Proofs.Tryz.prog 41 #[ptrV g] w (fun v w' => v = .int .i64 (syncDirM s).2 ∧ ∃ p', FsO w0 w' g (syncDirM s).1 p') := (syncDir_has g s p w x.at_ hcalls).mono fun _ _ h => x.done h
theorem renameO_has {w0 w : World} {g : Nat} {s : FsM} {p : FsP} (x : FsO w0 w g s p) (k k' : Nm) (hk : k'.length ≤ maxLen) (hcalls : s.calls < 1000000000 - 1) :
    Has Go.Proofs.Tryz.prog 93 #[ptrV g, .string (str k), .string (str k')] w (fun v w' => v = .int .i64 (renameM s k k').2 ∧ ∃ p', FsO w0 w' g (renameM s k k').1 p') := (rename_has g s p k k' w x.at_ hk hcalls).mono fun _ _ h => x.done h
theorem removeO_has {w0 w : World} {g : Nat} {s : FsM} {p : FsP} (x : FsO w0 w g s p) (k : Nm) (hcalls : s.calls < 1000000000 - 1) :
    Has Go.Proofs.Tryz.prog 129 #[ptrV g, .string (str k)] w (fun v w' => v = .int .i64 (removeM s k).2 ∧ ∃ p', FsO w0 w' g (removeM s k).1 p') := (remove_has g s p k w x.at_ hcalls).mono fun _ _ h => x.done h
theorem readO_has {w0 w : World} {g : Nat} {s : FsM} {p : FsP} (x : FsO w0 w g s p) (k : Nm) :
    Has Go.Proofs.Tryz.prog 23 #[ptrV g, .string (str k)] w (fun v w' => FsO w0 w' g s p ∧ Chg [] w w' ∧ readV (readM s k) w v w') := (read_has g s p k w x.at_).mono fun _ _ ⟨h1, h2⟩ => ⟨x.keep0 h1, h1, h2⟩
theorem crashO_has {w0 w : World} {g : Nat} {s : FsM} {p : FsP} (x : FsO w0 w g s p) (n : Int) {At : Option Addr} {nt ct : Nat} {tails : List Int} (ht : SliceOf Ri64 w (.slice At nt ct) tails) (hcalls : s.calls < 1000000000) :
    Has Go.Proofs.Tryz.prog 26 #[ptrV g, .int .i64 n, .slice At nt ct] w (fun v w' => FsO w0 w' g s p ∧ Chg [] w w' ∧ ∃ gc pc, v = ptrV gc ∧ FsO w w' gc (crashM s n tails) pc) :=
  (crash_has g s p n At nt ct tails w x.at_ ht hcalls).mono fun _ _ ⟨hc, gc, pc, hv, hx, hf⟩ => ⟨x.keep0 hc, hc, gc, pc, hv, hc, hx, hf⟩
theorem failO_has {w0 w : World} {g : Nat} {s : FsM} {p : FsP} (x : FsO w0 w g s p) (n : Int) (hn : n ≤ 9223372036854775807) : Has Go.Proofs.Tryz.prog 37 #[ptrV g, .int .i64 n] w (fun v w' => FsO w0 w' g { s with fail := max n (-1) } p) :=
  (fail_has g s p n w x.at_ hn).mono fun _ _ ⟨hc, hx⟩ => ⟨x.chgFp (chg_self hc), hx, x.fresh⟩
theorem fs_eq1 : createM (newM 100) [97] = (⟨100, 1, -1, [⟨[], 0⟩], [([97], 0)], [], [⟨0, [97], [], some 0⟩]⟩, 0) := by rfl
theorem fs_eq2 : appendM ⟨100, 1, -1, [⟨[], 0⟩], [([97], 0)], [], [⟨0, [97], [], some 0⟩]⟩ [97] [120, 121, 122] = (⟨100, 2, -1, [⟨[120, 121, 122], 0⟩], [([97], 0)], [], [⟨0, [97], [], some 0⟩]⟩, 0) := by rfl
end Go.Proofs.YtiadjkjlifnopaaGreatDoor.Tryz
/-! Manifests: segments taken out and put in. -/
set_option linter.unusedVariables false
namespace Go.Proofs.YtiadjkjlifnopaaGreatDoor.Tryz
open Go Go.Vc
def segF : Value := .func (.func 97) #[] #[]
theorem segNum_has (x : SegM) (w : World) : Has Go.Proofs.Tryz.prog 97 #[.agg (segL x).toArray] w (fun v w' => Chg [] w w' ∧ v = .int .i64 x.num) := by
  refine enter Go.Proofs.Tryz.func97 rfl rfl (by decide) rfl (e := [(0, .agg (segL x).toArray)]) ⟨rfl, trivial⟩ ?_
  refine run ?_
  refine go T 2 rfl ?_
  refine o1 rfl ?_
  refine op_box rfl rfl (fun g w1 hs1 hc1 hg1 => ?_)
  have hg1 : Blk w1 g 26 (segL x) := hg1
  unfold segL at hg1
  refine go T 6 rfl ?_
  refine ldB T hg1 rfl rfl rfl rfl rfl rfl ?_
  refine go T 4 rfl ?_
  exact post1 (.inl rfl) rfl rfl ⟨hc1, rfl⟩
/-- Is it this number? -/
theorem takeSeg1_has (gf gn : Nat) (x : SegM) (n : Int) (w : World) (hf : Blk w gf 146 [segF]) (hn : Blk w gn 2 [.int .i64 n]) :
    Has Go.Proofs.Tryz.prog 139 #[.agg (segL x).toArray, ptrV gf, ptrV gn] w (fun v w' => Chg [] w w' ∧ v = .bool (decide (x.num = n))) := by
  refine enter Go.Proofs.Tryz.func139 rfl rfl (by decide) rfl (e := [(0, .agg (segL x).toArray), (1, ptrV gf), (2, ptrV gn)]) ⟨rfl, rfl, rfl, trivial⟩ ?_
  unfold ptrV
  refine run ?_
  refine go T 2 rfl ?_
  refine o1 rfl ?_
  refine op_box rfl rfl (fun g w1 hs1 hc1 hg1 => ?_)
  have hg1 : Blk w1 g 26 (segL x) := hg1
  have hf1 := hf.keep0 hc1
  have hn1 := hn.keep0 hc1
  unfold segF at hf1
  refine go T 4 rfl ?_
  refine W_walk 4 [] fol (by kernel_rfl) (by kernel_rfl) ?_
  refine Walk.plain rfl (by intro val w_ hR hp; exact op_load T rfl rfl rfl rfl ((Blk.keep0 hf1 hR).cell rfl) ⟨Chg.refl _ _, rfl⟩) ?_; dsimp only [List.nil_append, List.cons_append]
  refine Walk.plain rfl (by intro val w_ hR hp; exact op_load_agg T rfl rfl rfl rfl (Blk.keep0 hg1 hR) (Nat.le_of_ble_eq_true rfl) rfl ⟨Chg.refl _ _, rfl⟩) ?_; dsimp only [List.nil_append, List.cons_append]
  refine Walk.plain (v := .int .i64 x.num) rfl (by intro val w_ hR hp; exact op_callf rfl rfl rfl (segNum_has x _) (fun v w' h => h)) ?_; dsimp only [List.nil_append, List.cons_append]
  refine Walk.plain rfl (by intro val w_ hR hp; exact op_load T rfl rfl rfl rfl ((Blk.keep0 hn1 hR).cell rfl) ⟨Chg.refl _ _, rfl⟩) ?_; dsimp only [List.nil_append, List.cons_append]
  refine Walk.fin ?_
  intro val w2 hc2 hp
  clear hp
  refine runL ?_
  refine o1 rfl ?_
  refine op_eql_d rfl rfl rfl ?_
  refine go T 4 rfl ?_
  exact post1 (.inl rfl) rfl rfl ⟨hc1.trans' hc2, rfl⟩
/-- Have they one number? -/
theorem putSeg1_has (gf gx : Nat) (x y : SegM) (w : World) (hf : Blk w gf 146 [segF]) (hx : Blk w gx 26 (segL x)) :
    Has Go.Proofs.Tryz.prog 141 #[.agg (segL y).toArray, ptrV gf, ptrV gx] w (fun v w' => Chg [] w w' ∧ v = .bool (decide (x.num = y.num))) := by
  refine enter Go.Proofs.Tryz.func141 rfl rfl (by decide) rfl (e := [(0, .agg (segL y).toArray), (1, ptrV gf), (2, ptrV gx)]) ⟨rfl, rfl, rfl, trivial⟩ ?_
  unfold ptrV
  refine run ?_
  refine go T 2 rfl ?_
  refine o1 rfl ?_
  refine op_box rfl rfl (fun g w1 hs1 hc1 hg1 => ?_)
  have hg1 : Blk w1 g 26 (segL y) := hg1
  have hf1 := hf.keep0 hc1
  have hx1 := hx.keep0 hc1
  unfold segF at hf1
  refine go T 4 rfl ?_
  refine W_walk 6 [] fol (by kernel_rfl) (by kernel_rfl) ?_
  refine Walk.plain rfl (by intro val w_ hR hp; exact op_load T rfl rfl rfl rfl ((Blk.keep0 hf1 hR).cell rfl) ⟨Chg.refl _ _, rfl⟩) ?_; dsimp only [List.nil_append, List.cons_append]
  refine Walk.plain rfl (by intro val w_ hR hp; exact op_load_agg T rfl rfl rfl rfl (Blk.keep0 hx1 hR) (Nat.le_of_ble_eq_true rfl) rfl ⟨Chg.refl _ _, rfl⟩) ?_; dsimp only [List.nil_append, List.cons_append]
  refine Walk.plain (v := .int .i64 x.num) rfl (by intro val w_ hR hp; exact op_callf rfl rfl rfl (segNum_has x _) (fun v w' h => h)) ?_; dsimp only [List.nil_append, List.cons_append]
  refine Walk.plain rfl (by intro val w_ hR hp; exact op_load T rfl rfl rfl rfl ((Blk.keep0 hf1 hR).cell rfl) ⟨Chg.refl _ _, rfl⟩) ?_; dsimp only [List.nil_append, List.cons_append]
  refine Walk.plain rfl (by intro val w_ hR hp; exact op_load_agg T rfl rfl rfl rfl (Blk.keep0 hg1 hR) (Nat.le_of_ble_eq_true rfl) rfl ⟨Chg.refl _ _, rfl⟩) ?_; dsimp only [List.nil_append, List.cons_append]
  refine Walk.plain (v := .int .i64 y.num) rfl (by intro val w_ hR hp; exact op_callf rfl rfl rfl (segNum_has y _) (fun v w' h => h)) ?_; dsimp only [List.nil_append, List.cons_append]
  refine Walk.fin ?_
  intro val w2 hc2 hp
  clear hp
  refine runL ?_
  refine o1 rfl ?_
  refine op_eql_d rfl rfl rfl ?_
  refine go T 4 rfl ?_
  exact post1 (.inl rfl) rfl rfl ⟨hc1.trans' hc2, rfl⟩
set_option maxHeartbeats 2000000 in
theorem take_has (A : Option Addr) (n c : Nat) (L : List SegM) (B : Option Addr) (m d : Nat) (ns : List Int) (w : World) (hl : SliceK 6 (RdL segL) w (.slice A n c) L) (hns : SliceOf Ri64 w (.slice B m d) ns) (hb : L.length ≤ 1000000) :
    Has Go.Proofs.Tryz.prog 96 #[.slice A n c, .slice B m d, segF] w (fun v w' => Chg [] w w' ∧ (takeK (·.num) ns L = none → v = .tuple #[.slice none 0 0, .bool false]) ∧ ∀ L', takeK (·.num) ns L = some L' → ∃ u, v = .tuple #[u, .bool true] ∧ Own w' 26 6 u L'.length (L'.flatMap segL) ∧ ∀ g, u.ownBlock = some g → w.heap.size ≤ g) := by
  obtain ⟨rfl, hm1, hm2⟩ := hns.len
  unfold maxLen at hm2
  refine enter Go.Proofs.Tryz.func96 rfl rfl (by decide) rfl (e := [(0, .slice A n c), (1, .slice B ns.length d), (2, segF)]) ⟨rfl, rfl, rfl, trivial⟩ ?_
  refine run ?_
  refine go T 2 rfl ?_
  refine o1 rfl ?_
  refine op_box rfl rfl (fun gf w1 hs1 hc1 hg1 => ?_)
  have hg1 : Blk w1 gf 146 [segF] := hg1
  have hs1 : w.heap.size ≤ gf := hs1
  refine go T 7 rfl ?_
  refine o1 rfl ?_
  refine op_call rfl rfl rfl (cloneSeg_has A n c L w1 (hl.keepR hc1) hb) ?_
  rintro v2 w2 ⟨hc2, ho2, hf2⟩
  refine go T 12 rfl ?_
  refine W_loop (σ := Nat × List SegM × Value) (fun s => [(0, s.2.2), (5, .pointer (some ⟨gf, 0, none⟩)), (13, .slice B ns.length d), (14, .int .i64 ns.length), (15, .int .i64 s.1)])
    (fun s w' => s.1 ≤ ns.length ∧ takeK (·.num) ns L = takeK (·.num) (ns.drop s.1) s.2.1 ∧ s.2.1.length ≤ L.length ∧ Chg [] w w' ∧ Own w' 26 6 s.2.2 s.2.1.length (s.2.1.flatMap segL) ∧ (∀ g, s.2.2.ownBlock = some g → w1.heap.size ≤ g) ∧ Blk w' gf 146 [segF])
    (fun s => ns.length - s.1) (0, L, v2) ⟨rfl, rfl, rfl, rfl, rfl, trivial⟩ ⟨by omega, by simp, Nat.le_refl _, hc1.trans' hc2, ho2, hf2, hg1.keep0 hc2⟩ ?_
  rintro ⟨i, M, u⟩ w3 ⟨hi, htk, hML, hc3, hu3, hf3, hg3⟩
  dsimp only at hi htk hML hc3 hu3 hf3 hg3 ⊢
  have hz1 := hc1.size
  have hgl := hg1.lt
  obtain ⟨Au, cu, rfl, hcu1, hcu2⟩ := hu3.form
  refine run ?_
  refine go T 2 rfl ?_
  refine ltS rfl rfl rfl rfl (fun hcmp => ?_) (fun hcmp => ?_)
  · have hi2 : i < ns.length := by omega
    obtain ⟨ad, u0, rfl, hu0, rfl, _, _⟩ := hns.get (i := i) (List.getElem?_eq_getElem hi2)
    have hdrop : ns.drop i = ns[i] :: ns.drop (i + 1) := List.drop_eq_getElem_cons hi2
    rw [hdrop] at htk
    generalize ns[i] = x at *
    have hu0' := hc3.cell0 hu0
    refine go T 10 rfl ?_
    refine o1 rfl (op_index_nat T rfl rfl rfl rfl rfl rfl (by omega) ?_)
    refine o1 rfl (op_load T rfl rfl rfl rfl (by assumption) ?_)
    refine o1 rfl ?_
    refine op_alloc T rfl rfl (fun gn w4 hs4 hc4 hg4 => ?_)
    have hg4 : Blk w4 gn 2 [.int .i64 0] := hg4
    have hs4 : w3.heap.size ≤ gn := hs4
    refine op0 rfl rfl ?_
    refine op_store T rfl rfl rfl rfl rfl rfl hg4 (by simp) (fun w5 hc5 hg5 _ => ?_)
    have hg5 : Blk w5 gn 2 [.int .i64 x] := hg5
    have hc35 : Chg [] w3 w5 := hc4.trans hc5 (fun k hk hlt => by simp at hk; omega)
    have hu5 := hu3.keep0 hc35
    have hg5f := hg3.keep0 hc35
    clear hg4
    refine go T 5 rfl ?_
    refine o1 rfl ?_
    refine op_makeFunc (fv := #[]) (cv := #[ptrV gf, ptrV gn]) rfl rfl rfl ?_
    refine o1 rfl ?_
    refine op_call rfl rfl rfl (indexSeg_has Au _ cu M _ _ (fun s => decide (s.num = x)) (hu5.readsK segL_len) (fun wq s hq _ => takeSeg1_has gf gn s x wq (hg5f.keep0 hq) (hg5.keep0 hq))) ?_
    rintro _ w6 ⟨hc6, rfl⟩
    have hix := idxM_lt (fun s : SegM => decide (s.num = x)) M
    have hu6 := hu5.keep0 hc6
    have hg6 := hg5f.keep0 hc6
    have hc36 := hc35.trans' hc6
    by_cases hneg : idxM (fun s : SegM => decide (s.num = x)) M < 0
    · rw [takeK, if_pos hneg] at htk
      refine go T 7 rfl ?_
      refine ltT rfl rfl rfl rfl (by omega) ?_
      refine go T 13 rfl ?_
      refine rndR ?_
      refine go T 2 rfl ?_
      exact post2 (.inl rfl) rfl rfl rfl ⟨hc3.trans' hc36, fun _ => rfl, fun L' h => by rw [htk] at h; cases h⟩
    · rw [takeK, if_neg hneg] at htk
      obtain ⟨k, hk⟩ : ∃ k : Nat, idxM (fun s : SegM => decide (s.num = x)) M = k := ⟨_, (Int.toNat_of_nonneg (by omega)).symm⟩
      rw [hk] at htk hneg hix ⊢
      rw [Int.toNat_natCast] at htk
      have hkl : k < M.length := by omega
      refine go T 7 rfl ?_
      refine ltF rfl rfl rfl rfl (by omega) ?_
      refine go T 9 rfl ?_
      refine adI rfl rfl rfl rfl (by omega) (by omega) ?_
      refine o1 rfl ?_
      refine op_call rfl rfl rfl (deleteSeg_has _ M k w6 hu6 hkl (by omega)) ?_
      rintro v7 w7 ⟨hc7, hb7, hu7⟩
      have hg7 := hg6.keep hc7 (fun hm => by have := hf3 gf (by simpa using hm); omega)
      have hc07 : Chg [] w w7 := (hc3.trans' hc36).trans hc7 (fun k hk hlt => by have := hf3 k (by simpa using hk); omega)
      refine go T 5 rfl ?_
      refine adI rfl rfl rfl rfl (by omega) (by omega) ?_
      refine go T 2 rfl ?_
      refine Round_n (i + 1, M.eraseIdx k, v7) ⟨rfl, rfl, rfl, rfl, rfl, trivial⟩ ⟨by dsimp only; omega, htk, ?_, hc07, hu7, fun g hg => hf3 g (by rw [← hb7]; exact hg), hg7⟩ (by dsimp only; omega)
      dsimp only
      rw [List.length_eraseIdx]; split <;> omega
  obtain rfl : i = ns.length := by omega
  rw [List.drop_length, takeK] at htk
  refine go T 6 rfl ?_
  refine rndX ?_
  refine go T 10 rfl ?_
  refine post2 (.inl rfl) rfl rfl rfl ⟨hc3, ?_, ?_⟩
  · intro h; rw [htk] at h; cases h
  · intro L' h
    rw [htk] at h; injection h with h; subst h
    exact ⟨_, rfl, hu3, fun g hg => by have := hf3 g hg; omega⟩
end Go.Proofs.YtiadjkjlifnopaaGreatDoor.Tryz
/-! Manifests: segments put in. -/
set_option linter.unusedVariables false
namespace Go.Proofs.YtiadjkjlifnopaaGreatDoor.Tryz
open Go Go.Vc
set_option maxHeartbeats 2000000 in
theorem put_has' (v : Value) (M : List SegM) (B : Option Addr) (m d : Nat) (xs : List SegM) (w : World) (hown : Own w 26 6 v M.length (M.flatMap segL)) (hxs : Firm v.ownBlock.toList w (fun w => SliceK 6 (RdL segL) w (.slice B m d) xs)) (hb : M.length + xs.length ≤ 1000000) :
    Has Go.Proofs.Tryz.prog 98 #[v, .slice B m d, segF] w (fun v' w' => Chg v.ownBlock.toList w w' ∧ (putK (·.num) xs M = none → v' = .tuple #[.slice none 0 0, .bool false]) ∧ ∀ M', putK (·.num) xs M = some M' → (M'.map (·.num)).Nodup → ∃ u, v' = .tuple #[u, .bool true] ∧ Own w' 26 6 u (sortK (·.num) M').length ((sortK (·.num) M').flatMap segL) ∧ ∀ g, u.ownBlock = some g → g ∈ v.ownBlock.toList ∨ w.heap.size ≤ g) := by
  obtain ⟨rfl, hm1, hm2⟩ := (hxs w (Chg.refl _ _)).len
  unfold maxLen at hm2
  refine enter Go.Proofs.Tryz.func98 rfl rfl (by decide) rfl (e := [(0, v), (1, .slice B xs.length d), (2, segF)]) ⟨rfl, rfl, rfl, trivial⟩ ?_
  refine run ?_
  refine go T 2 rfl ?_
  refine o1 rfl ?_
  refine op_box rfl rfl (fun gf w1 hs1 hc1 hg1 => ?_)
  have hg1 : Blk w1 gf 146 [segF] := hg1
  have hs1 : w.heap.size ≤ gf := hs1
  have hown1 := hown.keep0 hc1
  have hc0 : Chg v.ownBlock.toList w w1 := hc1.mono (fun k hk _ => by cases hk)
  refine go T 13 rfl ?_
  refine W_loop (σ := Nat × List SegM × Value) (fun s => [(0, s.2.2), (5, .pointer (some ⟨gf, 0, none⟩)), (10, .slice B xs.length d), (11, .int .i64 xs.length), (12, .int .i64 s.1)])
    (fun s w' => s.1 ≤ xs.length ∧ putK (·.num) xs M = putK (·.num) (xs.drop s.1) s.2.1 ∧ s.2.1.length = M.length + s.1 ∧ Chg v.ownBlock.toList w w' ∧ Own w' 26 6 s.2.2 s.2.1.length (s.2.1.flatMap segL) ∧ (∀ g, s.2.2.ownBlock = some g → g ∈ v.ownBlock.toList ∨ w.heap.size ≤ g) ∧ Blk w' gf 146 [segF])
    (fun s => xs.length - s.1) (0, M, v) ⟨rfl, rfl, rfl, rfl, rfl, trivial⟩ ⟨by omega, by simp, by simp, hc0, hown1, fun g hg => .inl (by simpa using hg), hg1⟩ ?_
  rintro ⟨i, N, u⟩ w3 ⟨hi, hpk, hNM, hc3, hu3, hf3, hg3⟩
  dsimp only at hi hpk hNM hc3 hu3 hf3 hg3 ⊢
  obtain ⟨Au, cu, rfl, hcu1, hcu2⟩ := hu3.form
  refine run ?_
  refine go T 2 rfl ?_
  refine ltS rfl rfl rfl rfl (fun hcmp => ?_) (fun hcmp => ?_)
  · have hi2 : i < xs.length := by omega
    obtain ⟨ad, hA, hel⟩ := (hxs w3 hc3).at (i := i) (List.getElem?_eq_getElem hi2)
    subst hA
    have hdrop : xs.drop i = xs[i] :: xs.drop (i + 1) := List.drop_eq_getElem_cons hi2
    rw [hdrop] at hpk
    generalize xs[i] = x at *
    refine go T 10 rfl ?_
    refine o1 rfl (op_indexK T rfl rfl rfl rfl rfl (by omega) ?_)
    refine o1 rfl (op_loadE T hel rfl rfl rfl rfl rfl ?_)
    refine o1 rfl ?_
    refine op_alloc T rfl rfl (fun gn w4 hs4 hc4 hg4 => ?_)
    have hg4 : Blk w4 gn 26 [.int .i64 0, .bool false, .int .i64 0, .int .i64 0, .int .i64 0, .int .u32 0] := hg4
    have hs4 : w3.heap.size ≤ gn := hs4
    refine op0 rfl rfl ?_
    refine op_store_agg T rfl rfl rfl rfl rfl rfl hg4 (by exact Nat.le_of_ble_eq_true rfl) (fun w5 hc5 hg5 _ => ?_)
    have hg5 : Blk w5 gn 26 (segL x) := hg5
    have hc35 : Chg [] w3 w5 := hc4.trans hc5 (fun k hk hlt => by simp at hk; omega)
    have hu5 := hu3.keep0 hc35
    have hg5f := hg3.keep0 hc35
    clear hg4
    refine go T 6 rfl ?_
    refine o1 rfl ?_
    refine op_makeFunc (fv := #[]) (cv := #[ptrV gf, ptrV gn]) rfl rfl rfl ?_
    refine o1 rfl ?_
    refine op_call rfl rfl rfl (hasSeg_has Au _ cu N _ _ (fun s => decide (x.num = s.num)) (hu5.readsK segL_len) (fun wq s hq _ => putSeg1_has gf gn x s wq (hg5f.keep0 hq) (hg5.keep0 hq))) ?_
    rintro _ w6 ⟨hc6, rfl⟩
    have hu6 := hu5.keep0 hc6
    have hg6 := hg5f.keep0 hc6
    have hg6n := hg5.keep0 hc6
    have hc06 := hc3.trans' (hc35.trans' hc6)
    by_cases hany : (N.any fun s => decide (x.num = s.num)) = true
    · rw [putK, if_pos hany] at hpk
      rw [hany]
      refine go T 13 rfl ?_
      refine rndR ?_
      refine go T 2 rfl ?_
      exact post2 (.inl rfl) rfl rfl rfl ⟨hc06, fun _ => rfl, fun L' h => by rw [hpk] at h; cases h⟩
    · rw [putK, if_neg hany] at hpk
      rw [Bool.eq_false_iff.2 hany]
      refine go T 7 rfl ?_
      refine o1 rfl (op_load_agg T rfl rfl rfl rfl hg6n (by exact Nat.le_of_ble_eq_true rfl) (by exact rfl) ?_)
      refine o1 rfl ?_
      refine op_buildSlice T rfl rfl rfl rfl rfl rfl rfl (fun g7 w7 hs7 hc7 hg7 => ?_)
      have hg7 : Blk w7 g7 26 (segL x) := hg7
      have hu7 := hu6.keep0 hc7
      have hg7f := hg6.keep0 hc7
      have hc07 := hc06.trans' hc7
      refine o1 rfl ?_
      refine op_append T (n := N.length) (xs := N.flatMap segL) (m := 1) (news := segL x) rfl rfl rfl rfl rfl rfl rfl rfl hu7 rfl ?_ (by unfold maxLen; omega) (by show (N.length + 1) * 48 ≤ _; omega) ?_
      · intro j u hj
        exact ⟨⟨_, rfl, by rw [add_plain]; exact hg7.cell hj⟩, segL_one _ u (List.mem_of_getElem? hj)⟩
      · intro v8 w8 hu8 hc8 hb8 _
        have hfr : ∀ h, v8.ownBlock = some h → h ∈ v.ownBlock.toList ∨ w.heap.size ≤ h := fun h hh => by
          rcases hb8 with hb | ⟨g', hb, hge⟩
          · exact hf3 h (by rw [← hb]; exact hh)
          · rw [hb] at hh; injection hh with hh; have := hc07.size; exact .inr (by omega)
        have hc08 : Chg v.ownBlock.toList w w8 := hc07.trans hc8 (fun k hk hlt => (hf3 k (by simpa using hk)).resolve_right (by omega))
        have hg8f := hg7f.keep hc8 (fun hm => by
          obtain ⟨cur, hrow⟩ := hu7.row (show _ = some gf by simpa using hm)
          exact hg7f.ne_ hrow (by decide) rfl)
        refine go T 5 rfl ?_
        refine adI rfl rfl rfl rfl (by omega) (by omega) ?_
        refine go T 2 rfl ?_
        refine Round_n (i + 1, N ++ [x], v8) ⟨rfl, rfl, rfl, rfl, rfl, trivial⟩ ⟨by dsimp only; omega, hpk, by dsimp only; rw [List.length_append, List.length_singleton]; omega, hc08, ?_, hfr, hg8f⟩ (by dsimp only; omega)
        dsimp only
        rw [List.length_append, List.flatMap_append]
        simpa using hu8
  obtain rfl : i = xs.length := by omega
  rw [List.drop_length, putK] at hpk
  have hgfo : gf ∉ (Value.slice Au N.length cu).ownBlock.toList := fun hm => by
    obtain ⟨cur, hrow⟩ := hu3.row (show _ = some gf by simpa using hm)
    exact hg3.ne_ hrow (by decide) rfl
  refine go T 6 rfl ?_
  refine rndX ?_
  refine go T 5 rfl ?_
  refine o1 rfl ?_
  refine op_makeFunc (fv := #[]) (cv := #[ptrV gf]) rfl rfl rfl ?_
  refine o1 rfl ?_
  refine op_call rfl rfl rfl (sortSeg_has gf _ N w3 hu3 (by omega) (hg3.cell rfl) hgfo) ?_
  rintro _ w4 ⟨rfl, hc4, N', hp, hpw, hu4⟩
  have hlen4 : N'.length = N.length := hp.length_eq
  have hc04 : Chg v.ownBlock.toList w w4 := hc3.trans hc4 (fun k hk hlt => (hf3 k (by simpa using hk)).resolve_right (by omega))
  refine go T 10 rfl ?_
  refine post2 (.inl rfl) rfl rfl rfl ⟨hc04, ?_, ?_⟩
  · intro h; rw [hpk] at h; cases h
  · intro M' h hn
    rw [hpk] at h; injection h with h; subst h
    obtain rfl := sortK_unique (key := fun s : SegM => s.num) hn hp hpw
    refine ⟨_, rfl, ?_, hf3⟩
    rw [hlen4] at hu4 ⊢
    exact hu4
end Go.Proofs.YtiadjkjlifnopaaGreatDoor.Tryz
/-! Manifests: the library's Clone and Delete of parity segments. -/
set_option linter.unusedVariables false
namespace Go.Vc
open Go
def parKey (s : ParS) : Int := s.1.p.group
theorem parS_all (x : ParS) : ((parSL x).toArray.toList.all fun u => u.oneCell') = true := List.all_eq_true.2 fun u hu => parS_one x u (by simpa using hu)
theorem idxM_map {α β : Type} (g : α → β) (p : β → Bool) : ∀ L : List α, idxM p (L.map g) = idxM (fun x => p (g x)) L
  | [] => rfl
  | a :: l => by rw [List.map_cons, idxM, idxM, idxM_map g p l]
theorem par_reads {w : World} {v : Value} {L : List ParS} (h : SliceK 5 (RdL parSL) w v L) : SliceK 5 (RdL parL) w v (L.map (·.1)) := by
  unfold SliceK at *
  obtain ⟨A, c, rfl, h1, h2, h⟩ := h
  refine ⟨A, c, by rw [List.length_map], by rw [List.length_map]; exact h1, h2, fun i x hx => ?_⟩
  rw [List.getElem?_map] at hx
  cases hi : L[i]? with
  | none => rw [hi] at hx; cases hx
  | some y =>
    rw [hi] at hx
    injection hx with hx
    subst hx
    exact h i y hi
end Go.Vc
namespace Go.Proofs.YtiadjkjlifnopaaGreatDoor.Tryz
open Go Go.Vc
set_option maxHeartbeats 1000000 in
theorem clonePar_has (A : Option Addr) (n c : Nat) (L : List ParS) (w : World) (hl : SliceK 5 (RdL parSL) w (.slice A n c) L) (hb : L.length ≤ 1000000) :
    Has Go.Proofs.Tryz.prog 145 #[.slice A n c] w (fun v w' => Chg [] w w' ∧ Own w' 70 5 v L.length (L.flatMap parSL) ∧ ∀ g, v.ownBlock = some g → w.heap.size ≤ g) := by
  obtain ⟨rfl, hl1, hl2⟩ := hl.len
  refine enter Go.Proofs.Tryz.func145 rfl rfl (by decide) rfl (e := [(0, .slice A L.length c)]) ⟨rfl, trivial⟩ ?_
  refine run ?_
  refine go T 9 rfl ?_
  refine o1 rfl ?_
  refine op_eql_nil T rfl rfl rfl rfl (fun hA => ?_) (fun ad hA => ?_)
  · have hl0 : L = [] := by
      cases L with
      | nil => rfl
      | cons c l => obtain ⟨ad, he, _⟩ := hl.at (i := 0) (x := c) rfl; rw [hA] at he; cases he
    subst hl0
    refine go T 10 rfl ?_
    exact post1 (.inl rfl) rfl rfl ⟨Chg.refl _ _, Own.nil _ _ _, fun g h => by simp [Value.ownBlock] at h⟩
  · subst hA
    refine go T 7 rfl ?_
    refine o1 rfl ?_
    refine op_buildSlice T rfl rfl rfl rfl rfl rfl rfl (fun g w1 hgs hc1 hg1 => ?_)
    have ho : Own w1 70 5 (.slice (some ⟨g, 0, none⟩) 0 0) 0 [] := Own.mk hg1 (Nat.le_refl _) (Nat.zero_le _) rfl rfl
    have hl' := hl.keepR hc1
    refine go T 1 rfl ?_
    refine o1 rfl ?_
    refine op_append T (n := 0) (xs := []) (m := L.length) (news := L.flatMap parSL) rfl rfl rfl rfl rfl rfl rfl rfl ho (rk_len parS_len L) ?_ (by unfold maxLen; omega) (by show (0 + _) * 72 ≤ _; omega) ?_
    · intro j u hu
      have hjl := (List.getElem?_eq_some_iff.1 hu).1
      rw [rk_len parS_len] at hjl
      have hi : j / 5 < L.length := by omega
      have hm : j % 5 < 5 := by omega
      have hx : L[j / 5]? = some L[j / 5] := List.getElem?_eq_getElem hi
      have h1 := rk_get parS_len L hx hm
      rw [show j / 5 * 5 + j % 5 = j from by omega, hu] at h1
      obtain ⟨ad', he, hel⟩ := hl'.at hx
      have h2 := hel (j % 5) u h1.symm
      rw [show j / 5 * 5 + j % 5 = j from by omega] at h2
      exact ⟨⟨ad', he, h2⟩, parS_one _ u (List.mem_of_getElem? h1.symm)⟩
    · intro v w2 hu2 hc2 hb2 _
      rw [Nat.zero_add, List.nil_append] at hu2
      have hgs : w.heap.size ≤ g := hgs
      refine go T 4 rfl ?_
      refine post1 (.inl rfl) rfl rfl ⟨hc1.trans hc2 (fun k hk hlt => by simp [Value.ownBlock] at hk; omega), hu2, fun h hh => ?_⟩
      rcases hb2 with hb2 | ⟨g', hb2, hge⟩
      · rw [hb2] at hh; simp [Value.ownBlock] at hh; omega
      · rw [hb2] at hh; injection hh with hh; have := hc1.size; omega
set_option maxHeartbeats 2000000 in
/-- One goes, in place. -/
theorem deletePar_has (v : Value) (L : List ParS) (k : Nat) (w : World) (hown : Own w 70 5 v L.length (L.flatMap parSL)) (hk : k < L.length) (hb : L.length ≤ 1000000) :
    Has Go.Proofs.Tryz.prog 148 #[v, .int .i64 (k : Int), .int .i64 ((k : Int) + 1)] w (fun v' w' => Chg v.ownBlock.toList w w' ∧ v'.ownBlock = v.ownBlock ∧ Own w' 70 5 v' (L.eraseIdx k).length ((L.eraseIdx k).flatMap parSL)) := by
  obtain ⟨g, cap, cur, rfl, hn, hm, hblk, hl, ht⟩ := hown.blk (by omega)
  have hmm := hm
  unfold maxLen at hmm
  refine enter Go.Proofs.Tryz.func148 rfl rfl (by decide) rfl (e := [(0, .slice (some ⟨g, 0, none⟩) L.length cap), (1, .int .i64 (k : Int)), (2, .int .i64 ((k : Int) + 1))]) ⟨rfl, rfl, rfl, trivial⟩ ?_
  rw [show ((k : Int) + 1) = ((k + 1 : Nat) : Int) from by omega]
  refine run ?_
  refine go T 12 rfl ?_
  refine o1 rfl ?_
  refine op_slice3 T (l := k) (h' := k + 1) (m := L.length) rfl rfl rfl rfl rfl rfl rfl (by omega) (by omega) (by omega) (fun v13 => ?_)
  refine go T 7 rfl ?_
  refine eqF rfl rfl rfl rfl (by omega) ?_
  refine go T 13 rfl ?_
  refine W_walk 6 [] fol (by kernel_rfl) (by kernel_rfl) ?_
  refine Walk.plain rfl (by intro val w_ hR hp; exact op_move rfl rfl ⟨Chg.refl _ _, rfl⟩) ?_; dsimp only [List.nil_append, List.cons_append]
  refine Walk.plain rfl (by intro val w_ hR hp; exact op_move rfl rfl ⟨Chg.refl _ _, rfl⟩) ?_; dsimp only [List.nil_append, List.cons_append]
  refine Walk.plain (v := .slice (some ⟨g, 0, none⟩) k cap) rfl (by intro val w_ hR hp; exact op_slice_to T (h' := k) (k := .i64) rfl rfl rfl rfl rfl (by omega) ⟨Chg.refl _ _, rfl⟩) ?_; dsimp only [List.nil_append, List.cons_append]
  refine Walk.plain rfl (by intro val w_ hR hp; exact op_move rfl rfl ⟨Chg.refl _ _, rfl⟩) ?_; dsimp only [List.nil_append, List.cons_append]
  refine Walk.plain rfl (by intro val w_ hR hp; exact op_move rfl rfl ⟨Chg.refl _ _, rfl⟩) ?_; dsimp only [List.nil_append, List.cons_append]
  refine Walk.plain (v := .slice (if cap = k + 1 then some ⟨g, 0, none⟩ else (some (⟨g, 0, none⟩ : Addr)).map (·.add ((k + 1) * 5))) (L.length - (k + 1)) (cap - (k + 1))) rfl (by intro val w_ hR hp; exact op_slice T (l := k + 1) (h' := L.length) rfl rfl rfl rfl ⟨_, rfl⟩ rfl (by omega) (by omega) ⟨Chg.refl _ _, rfl⟩) ?_; dsimp only [List.nil_append, List.cons_append]
  skip
  refine Walk.fin ?_
  intro val w1 hc1 hp
  clear hp
  replace hown := hown.keep0 hc1
  replace hblk := hblk.keep0 hc1
  have hb1 := hblk
  obtain ⟨a, ha, hav⟩ : ∃ a, (if cap = k + 1 then some ⟨g, 0, none⟩ else (some (⟨g, 0, none⟩ : Addr)).map (·.add ((k + 1) * 5))) = some a ∧ (cap = k + 1 ∨ a = (⟨g, 0, none⟩ : Addr).add ((k + 1) * 5)) := by
    split
    · rename_i h; exact ⟨_, rfl, .inl h⟩
    · exact ⟨_, rfl, .inr rfl⟩
  rw [ha]
  have hcells : ∀ j u, ((L.drop (k + 1)).flatMap parSL)[j]? = some u → w1.cell? (a.add j) = some u := fun j u hj => by
    rcases hav with h | h
    · have : L.drop (k + 1) = [] := List.drop_eq_nil_of_le (by omega)
      rw [this] at hj; simp at hj
    · rw [h, add_of_add, add_plain]
      have hlen : ((L.drop (k + 1)).flatMap parSL).length = (L.length - (k + 1)) * 5 := by rw [rk_len parS_len, List.length_drop]
      have hjl := (List.getElem?_eq_some_iff.1 hj).1
      rw [hlen] at hjl
      refine hb1.cell ?_
      have e1 : (L.flatMap parSL)[(k + 1) * 5 + j]? = some u := by
        have h2 : L.flatMap parSL = (L.take (k + 1)).flatMap parSL ++ (L.drop (k + 1)).flatMap parSL := by rw [← List.flatMap_append, List.take_append_drop]
        rw [h2, List.getElem?_append_right (by rw [rk_len parS_len, List.length_take]; omega), rk_len parS_len, List.length_take, Nat.min_eq_left (by omega), Nat.add_sub_cancel_left]
        exact hj
      rw [← ht, List.getElem?_take] at e1
      split at e1
      · exact e1
      · cases e1
  have hnl : ((L.drop (k + 1)).flatMap parSL).length = (L.length - (k + 1)) * 5 := by rw [rk_len parS_len, List.length_drop]
  have hfitl : k * 5 + ((L.drop (k + 1)).flatMap parSL).length ≤ cur.length := by rw [hnl, hl]; omega
  have hone : ∀ u ∈ (L.drop (k + 1)).flatMap parSL, u.oneCell' = true := fun u hu => by
    obtain ⟨x, _, hx⟩ := List.mem_flatMap.1 hu
    exact parS_one x u hx
  refine runL ?_
  refine o1 rfl ?_
  refine op_appendIn T (t := 47) (el := 70) (g := g) (a := a) (n := k) (cap := cap) (m := L.length - (k + 1)) (news := (L.drop (k + 1)).flatMap parSL) rfl rfl rfl rfl rfl rfl hb1 hnl hcells hone (by omega) hfitl (fun w2 hc2 hb2 => ?_)
  have hb2 : Blk w2 g 70 (cur.take (k * 5) ++ (L.drop (k + 1)).flatMap parSL ++ cur.drop (k * 5 + ((L.drop (k + 1)).flatMap parSL).length)) := hb2
  have hkn : k + (L.length - (k + 1)) = L.length - 1 := by omega
  rw [hkn]
  have htk : cur.take (k * 5) = (L.take k).flatMap parSL := by
    have : cur.take (k * 5) = (L.flatMap parSL).take (k * 5) := by rw [← ht, List.take_take, Nat.min_eq_left (by omega)]
    rw [this]
    have h2 : L.flatMap parSL = (L.take k).flatMap parSL ++ (L.drop k).flatMap parSL := by rw [← List.flatMap_append, List.take_append_drop]
    rw [h2]
    exact List.take_left' (by rw [rk_len parS_len, List.length_take, Nat.min_eq_left (by omega)])
  have her : cur.take (k * 5) ++ (L.drop (k + 1)).flatMap parSL = (L.eraseIdx k).flatMap parSL := by
    rw [htk, eraseIdx_split L k hk, List.flatMap_append]
  rw [her] at hb2
  have hel : (L.eraseIdx k).length = L.length - 1 := by rw [List.length_eraseIdx, if_pos hk]
  have hefl : ((L.eraseIdx k).flatMap parSL).length = (L.length - 1) * 5 := by rw [rk_len parS_len, hel]
  have htot : ((L.eraseIdx k).flatMap parSL ++ cur.drop (k * 5 + ((L.drop (k + 1)).flatMap parSL).length)).length = cap * 5 := by
    rw [List.length_append, hefl, List.length_drop, hnl, hl]; omega
  generalize cur.drop (k * 5 + ((L.drop (k + 1)).flatMap parSL).length) = back at *
  refine go T 9 rfl ?_
  refine o1 rfl ?_
  refine op_slice T (l := L.length - 1) (h' := L.length) rfl rfl rfl rfl ⟨_, rfl⟩ ⟨_, rfl⟩ (by omega) (by omega) ?_
  rw [if_neg (by omega)]
  refine op0 rfl rfl ?_
  refine op_clear T (A := some ⟨g, (L.length - 1) * 5, none⟩) (g := g) (off := (L.length - 1) * 5) (m := L.length - (L.length - 1)) (c := cap - (L.length - 1)) rfl rfl (by show some (Value.slice (some ((⟨g, 0, none⟩ : Addr).add ((L.length - 1) * 5))) _ _) = _; rw [add_plain]) rfl rfl rfl rfl (.inr rfl) hb2 (by rw [htot]; show (L.length - 1) * 5 + (L.length - (L.length - 1)) * 5 ≤ _; omega) (fun w3 rest hc3 hb3 hl3 => ?_)
  rw [List.take_left' hefl] at hb3 hl3
  rw [htot] at hl3
  refine go T 9 rfl ?_
  refine post1 (.inl rfl) rfl rfl ⟨(hc1.mono (fun k hk _ => by cases hk)).trans (hc2.trans hc3 (fun i hi _ => hi)) (fun i hi _ => by simpa [Value.ownBlock] using hi), rfl, ?_⟩
  rw [hel]
  exact Own.mk hb3 (by omega) hm hl3 (List.take_left' hefl)
theorem indexParS_has {w : World} (A : Option Addr) (n c : Nat) (L : List ParS) (fn : Nat) (cv : Array Value) (q : ParS → Bool) (p : ParV → Bool) (hq : ∀ s, q s = p s.1) (hs : SliceK 5 (RdL parSL) w (.slice A n c) L)
    (hf : ∀ w1 x, Chg [] w w1 → Has Go.Proofs.Tryz.prog fn (#[] ++ #[.agg (parL x).toArray] ++ cv) w1 (fun v w' => Chg [] w1 w' ∧ v = .bool (p x))) :
    Has Go.Proofs.Tryz.prog 146 #[.slice A n c, .func (.func fn) #[] cv] w (fun v w' => Chg [] w w' ∧ v = .int .i64 (idxM q L)) := by
  have := indexPar_has A n c (L.map (·.1)) fn cv p (par_reads hs) (fun w1 x h _ => hf w1 x h)
  rw [idxM_map, show (fun x : ParS => p x.1) = q from funext fun s => (hq s).symm] at this
  exact this
theorem hasParS_has {w : World} (A : Option Addr) (n c : Nat) (L : List ParS) (fn : Nat) (cv : Array Value) (q : ParS → Bool) (p : ParV → Bool) (hq : ∀ s, q s = p s.1) (hs : SliceK 5 (RdL parSL) w (.slice A n c) L)
    (hf : ∀ w1 x, Chg [] w w1 → Has Go.Proofs.Tryz.prog fn (#[] ++ #[.agg (parL x).toArray] ++ cv) w1 (fun v w' => Chg [] w1 w' ∧ v = .bool (p x))) :
    Has Go.Proofs.Tryz.prog 136 #[.slice A n c, .func (.func fn) #[] cv] w (fun v w' => Chg [] w w' ∧ v = .bool (L.any q)) := by
  have := hasPar_has A n c (L.map (·.1)) fn cv p (par_reads hs) (fun w1 x h _ => hf w1 x h)
  rw [List.any_map, show (p ∘ fun x : ParS => x.1) = q from funext fun s => (hq s).symm] at this
  exact this
end Go.Proofs.YtiadjkjlifnopaaGreatDoor.Tryz
/-! Manifests: parity segments taken out and put in. -/
set_option linter.unusedVariables false
namespace Go.Proofs.YtiadjkjlifnopaaGreatDoor.Tryz
open Go Go.Vc
def parF : Value := .func (.func 100) #[] #[]
theorem parNum_has (x : ParV) (w : World) : Has Go.Proofs.Tryz.prog 100 #[.agg (parL x).toArray] w (fun v w' => Chg [] w w' ∧ v = .int .i64 x.p.group) := by
  refine enter Go.Proofs.Tryz.func100 rfl rfl (by decide) rfl (e := [(0, .agg (parL x).toArray)]) ⟨rfl, trivial⟩ ?_
  refine run ?_
  refine go T 2 rfl ?_
  refine o1 rfl ?_
  refine op_box rfl rfl (fun g w1 hs1 hc1 hg1 => ?_)
  have hg1 : Blk w1 g 70 (parL x) := hg1
  unfold parL at hg1
  refine go T 6 rfl ?_
  refine ldB T hg1 rfl rfl rfl rfl rfl rfl ?_
  refine go T 4 rfl ?_
  exact post1 (.inl rfl) rfl rfl ⟨hc1, rfl⟩
/-- Is it this number? -/
theorem takePar1_has (gf gn : Nat) (x : ParV) (n : Int) (w : World) (hf : Blk w gf 150 [parF]) (hn : Blk w gn 2 [.int .i64 n]) :
    Has Go.Proofs.Tryz.prog 147 #[.agg (parL x).toArray, ptrV gf, ptrV gn] w (fun v w' => Chg [] w w' ∧ v = .bool (decide (x.p.group = n))) := by
  refine enter Go.Proofs.Tryz.func147 rfl rfl (by decide) rfl (e := [(0, .agg (parL x).toArray), (1, ptrV gf), (2, ptrV gn)]) ⟨rfl, rfl, rfl, trivial⟩ ?_
  unfold ptrV
  refine run ?_
  refine go T 2 rfl ?_
  refine o1 rfl ?_
  refine op_box rfl rfl (fun g w1 hs1 hc1 hg1 => ?_)
  have hg1 : Blk w1 g 70 (parL x) := hg1
  have hf1 := hf.keep0 hc1
  have hn1 := hn.keep0 hc1
  unfold parF at hf1
  refine go T 4 rfl ?_
  refine W_walk 4 [] fol (by kernel_rfl) (by kernel_rfl) ?_
  refine Walk.plain rfl (by intro val w_ hR hp; exact op_load T rfl rfl rfl rfl ((Blk.keep0 hf1 hR).cell rfl) ⟨Chg.refl _ _, rfl⟩) ?_; dsimp only [List.nil_append, List.cons_append]
  refine Walk.plain rfl (by intro val w_ hR hp; exact op_load_agg T rfl rfl rfl rfl (Blk.keep0 hg1 hR) (Nat.le_of_ble_eq_true rfl) rfl ⟨Chg.refl _ _, rfl⟩) ?_; dsimp only [List.nil_append, List.cons_append]
  refine Walk.plain (v := .int .i64 x.p.group) rfl (by intro val w_ hR hp; exact op_callf rfl rfl rfl (parNum_has x _) (fun v w' h => h)) ?_; dsimp only [List.nil_append, List.cons_append]
  refine Walk.plain rfl (by intro val w_ hR hp; exact op_load T rfl rfl rfl rfl ((Blk.keep0 hn1 hR).cell rfl) ⟨Chg.refl _ _, rfl⟩) ?_; dsimp only [List.nil_append, List.cons_append]
  refine Walk.fin ?_
  intro val w2 hc2 hp
  clear hp
  refine runL ?_
  refine o1 rfl ?_
  refine op_eql_d rfl rfl rfl ?_
  refine go T 4 rfl ?_
  exact post1 (.inl rfl) rfl rfl ⟨hc1.trans' hc2, rfl⟩
/-- Have they one number? -/
theorem putPar1_has (gf gx : Nat) (x y : ParV) (w : World) (hf : Blk w gf 150 [parF]) (hx : Blk w gx 70 (parL x)) :
    Has Go.Proofs.Tryz.prog 149 #[.agg (parL y).toArray, ptrV gf, ptrV gx] w (fun v w' => Chg [] w w' ∧ v = .bool (decide (x.p.group = y.p.group))) := by
  refine enter Go.Proofs.Tryz.func149 rfl rfl (by decide) rfl (e := [(0, .agg (parL y).toArray), (1, ptrV gf), (2, ptrV gx)]) ⟨rfl, rfl, rfl, trivial⟩ ?_
  unfold ptrV
  refine run ?_
  refine go T 2 rfl ?_
  refine o1 rfl ?_
  refine op_box rfl rfl (fun g w1 hs1 hc1 hg1 => ?_)
  have hg1 : Blk w1 g 70 (parL y) := hg1
  have hf1 := hf.keep0 hc1
  have hx1 := hx.keep0 hc1
  unfold parF at hf1
  refine go T 4 rfl ?_
  refine W_walk 6 [] fol (by kernel_rfl) (by kernel_rfl) ?_
  refine Walk.plain rfl (by intro val w_ hR hp; exact op_load T rfl rfl rfl rfl ((Blk.keep0 hf1 hR).cell rfl) ⟨Chg.refl _ _, rfl⟩) ?_; dsimp only [List.nil_append, List.cons_append]
  refine Walk.plain rfl (by intro val w_ hR hp; exact op_load_agg T rfl rfl rfl rfl (Blk.keep0 hx1 hR) (Nat.le_of_ble_eq_true rfl) rfl ⟨Chg.refl _ _, rfl⟩) ?_; dsimp only [List.nil_append, List.cons_append]
  refine Walk.plain (v := .int .i64 x.p.group) rfl (by intro val w_ hR hp; exact op_callf rfl rfl rfl (parNum_has x _) (fun v w' h => h)) ?_; dsimp only [List.nil_append, List.cons_append]
  refine Walk.plain rfl (by intro val w_ hR hp; exact op_load T rfl rfl rfl rfl ((Blk.keep0 hf1 hR).cell rfl) ⟨Chg.refl _ _, rfl⟩) ?_; dsimp only [List.nil_append, List.cons_append]
  refine Walk.plain rfl (by intro val w_ hR hp; exact op_load_agg T rfl rfl rfl rfl (Blk.keep0 hg1 hR) (Nat.le_of_ble_eq_true rfl) rfl ⟨Chg.refl _ _, rfl⟩) ?_; dsimp only [List.nil_append, List.cons_append]
  refine Walk.plain (v := .int .i64 y.p.group) rfl (by intro val w_ hR hp; exact op_callf rfl rfl rfl (parNum_has y _) (fun v w' h => h)) ?_; dsimp only [List.nil_append, List.cons_append]
  refine Walk.fin ?_
  intro val w2 hc2 hp
  clear hp
  refine runL ?_
  refine o1 rfl ?_
  refine op_eql_d rfl rfl rfl ?_
  refine go T 4 rfl ?_
  exact post1 (.inl rfl) rfl rfl ⟨hc1.trans' hc2, rfl⟩
set_option maxHeartbeats 2000000 in
theorem takeP_has (A : Option Addr) (n c : Nat) (L : List ParS) (B : Option Addr) (m d : Nat) (ns : List Int) (w : World) (hl : SliceK 5 (RdL parSL) w (.slice A n c) L) (hns : SliceOf Ri64 w (.slice B m d) ns) (hb : L.length ≤ 1000000) :
    Has Go.Proofs.Tryz.prog 99 #[.slice A n c, .slice B m d, parF] w (fun v w' => Chg [] w w' ∧ (takeK parKey ns L = none → v = .tuple #[.slice none 0 0, .bool false]) ∧ ∀ L', takeK parKey ns L = some L' → ∃ u, v = .tuple #[u, .bool true] ∧ Own w' 70 5 u L'.length (L'.flatMap parSL) ∧ ∀ g, u.ownBlock = some g → w.heap.size ≤ g) := by
  obtain ⟨rfl, hm1, hm2⟩ := hns.len
  unfold maxLen at hm2
  refine enter Go.Proofs.Tryz.func99 rfl rfl (by decide) rfl (e := [(0, .slice A n c), (1, .slice B ns.length d), (2, parF)]) ⟨rfl, rfl, rfl, trivial⟩ ?_
  refine run ?_
  refine go T 2 rfl ?_
  refine o1 rfl ?_
  refine op_box rfl rfl (fun gf w1 hs1 hc1 hg1 => ?_)
  have hg1 : Blk w1 gf 150 [parF] := hg1
  have hs1 : w.heap.size ≤ gf := hs1
  refine go T 7 rfl ?_
  refine o1 rfl ?_
  refine op_call rfl rfl rfl (clonePar_has A n c L w1 (hl.keepR hc1) hb) ?_
  rintro v2 w2 ⟨hc2, ho2, hf2⟩
  refine go T 12 rfl ?_
  refine W_loop (σ := Nat × List ParS × Value) (fun s => [(0, s.2.2), (5, .pointer (some ⟨gf, 0, none⟩)), (13, .slice B ns.length d), (14, .int .i64 ns.length), (15, .int .i64 s.1)])
    (fun s w' => s.1 ≤ ns.length ∧ takeK parKey ns L = takeK parKey (ns.drop s.1) s.2.1 ∧ s.2.1.length ≤ L.length ∧ Chg [] w w' ∧ Own w' 70 5 s.2.2 s.2.1.length (s.2.1.flatMap parSL) ∧ (∀ g, s.2.2.ownBlock = some g → w1.heap.size ≤ g) ∧ Blk w' gf 150 [parF])
    (fun s => ns.length - s.1) (0, L, v2) ⟨rfl, rfl, rfl, rfl, rfl, trivial⟩ ⟨by omega, by simp, Nat.le_refl _, hc1.trans' hc2, ho2, hf2, hg1.keep0 hc2⟩ ?_
  rintro ⟨i, M, u⟩ w3 ⟨hi, htk, hML, hc3, hu3, hf3, hg3⟩
  dsimp only at hi htk hML hc3 hu3 hf3 hg3 ⊢
  have hz1 := hc1.size
  have hgl := hg1.lt
  obtain ⟨Au, cu, rfl, hcu1, hcu2⟩ := hu3.form
  refine run ?_
  refine go T 2 rfl ?_
  refine ltS rfl rfl rfl rfl (fun hcmp => ?_) (fun hcmp => ?_)
  · have hi2 : i < ns.length := by omega
    obtain ⟨ad, u0, rfl, hu0, rfl, _, _⟩ := hns.get (i := i) (List.getElem?_eq_getElem hi2)
    have hdrop : ns.drop i = ns[i] :: ns.drop (i + 1) := List.drop_eq_getElem_cons hi2
    rw [hdrop] at htk
    generalize ns[i] = x at *
    have hu0' := hc3.cell0 hu0
    refine go T 10 rfl ?_
    refine o1 rfl (op_index_nat T rfl rfl rfl rfl rfl rfl (by omega) ?_)
    refine o1 rfl (op_load T rfl rfl rfl rfl (by assumption) ?_)
    refine o1 rfl ?_
    refine op_alloc T rfl rfl (fun gn w4 hs4 hc4 hg4 => ?_)
    have hg4 : Blk w4 gn 2 [.int .i64 0] := hg4
    have hs4 : w3.heap.size ≤ gn := hs4
    refine op0 rfl rfl ?_
    refine op_store T rfl rfl rfl rfl rfl rfl hg4 (by simp) (fun w5 hc5 hg5 _ => ?_)
    have hg5 : Blk w5 gn 2 [.int .i64 x] := hg5
    have hc35 : Chg [] w3 w5 := hc4.trans hc5 (fun k hk hlt => by simp at hk; omega)
    have hu5 := hu3.keep0 hc35
    have hg5f := hg3.keep0 hc35
    clear hg4
    refine go T 5 rfl ?_
    refine o1 rfl ?_
    refine op_makeFunc (fv := #[]) (cv := #[ptrV gf, ptrV gn]) rfl rfl rfl ?_
    refine o1 rfl ?_
    refine op_call rfl rfl rfl (indexParS_has Au _ cu M _ _ (fun s => decide (parKey s = x)) (fun s => decide (s.p.group = x)) (fun _ => rfl) (hu5.readsK parS_len) (fun wq s hq => takePar1_has gf gn s x wq (hg5f.keep0 hq) (hg5.keep0 hq))) ?_
    rintro _ w6 ⟨hc6, rfl⟩
    have hix := idxM_lt (fun s : ParS => decide (parKey s = x)) M
    have hu6 := hu5.keep0 hc6
    have hg6 := hg5f.keep0 hc6
    have hc36 := hc35.trans' hc6
    by_cases hneg : idxM (fun s : ParS => decide (parKey s = x)) M < 0
    · rw [takeK, if_pos hneg] at htk
      refine go T 7 rfl ?_
      refine ltT rfl rfl rfl rfl (by omega) ?_
      refine go T 13 rfl ?_
      refine rndR ?_
      refine go T 2 rfl ?_
      exact post2 (.inl rfl) rfl rfl rfl ⟨hc3.trans' hc36, fun _ => rfl, fun L' h => by rw [htk] at h; cases h⟩
    · rw [takeK, if_neg hneg] at htk
      obtain ⟨k, hk⟩ : ∃ k : Nat, idxM (fun s : ParS => decide (parKey s = x)) M = k := ⟨_, (Int.toNat_of_nonneg (by omega)).symm⟩
      rw [hk] at htk hneg hix ⊢
      rw [Int.toNat_natCast] at htk
      have hkl : k < M.length := by omega
      refine go T 7 rfl ?_
      refine ltF rfl rfl rfl rfl (by omega) ?_
      refine go T 9 rfl ?_
      refine adI rfl rfl rfl rfl (by omega) (by omega) ?_
      refine o1 rfl ?_
      refine op_call rfl rfl rfl (deletePar_has _ M k w6 hu6 hkl (by omega)) ?_
      rintro v7 w7 ⟨hc7, hb7, hu7⟩
      have hg7 := hg6.keep hc7 (fun hm => by have := hf3 gf (by simpa using hm); omega)
      have hc07 : Chg [] w w7 := (hc3.trans' hc36).trans hc7 (fun k hk hlt => by have := hf3 k (by simpa using hk); omega)
      refine go T 5 rfl ?_
      refine adI rfl rfl rfl rfl (by omega) (by omega) ?_
      refine go T 2 rfl ?_
      refine Round_n (i + 1, M.eraseIdx k, v7) ⟨rfl, rfl, rfl, rfl, rfl, trivial⟩ ⟨by dsimp only; omega, htk, ?_, hc07, hu7, fun g hg => hf3 g (by rw [← hb7]; exact hg), hg7⟩ (by dsimp only; omega)
      dsimp only
      rw [List.length_eraseIdx]; split <;> omega
  obtain rfl : i = ns.length := by omega
  rw [List.drop_length, takeK] at htk
  refine go T 6 rfl ?_
  refine rndX ?_
  refine go T 10 rfl ?_
  refine post2 (.inl rfl) rfl rfl rfl ⟨hc3, ?_, ?_⟩
  · intro h; rw [htk] at h; cases h
  · intro L' h
    rw [htk] at h; injection h with h; subst h
    exact ⟨_, rfl, hu3, fun g hg => by have := hf3 g hg; omega⟩
end Go.Proofs.YtiadjkjlifnopaaGreatDoor.Tryz
/-! Manifests: parity segments put in. -/
set_option linter.unusedVariables false
namespace Go.Proofs.YtiadjkjlifnopaaGreatDoor.Tryz
open Go Go.Vc
set_option maxHeartbeats 2000000 in
theorem putP_has' (v : Value) (M : List ParS) (B : Option Addr) (m d : Nat) (xs : List ParS) (w : World) (hown : Own w 70 5 v M.length (M.flatMap parSL)) (hxs : Firm v.ownBlock.toList w (fun w => SliceK 5 (RdL parSL) w (.slice B m d) xs)) (hb : M.length + xs.length ≤ 1000000) :
    Has Go.Proofs.Tryz.prog 101 #[v, .slice B m d, parF] w (fun v' w' => Chg v.ownBlock.toList w w' ∧ (putK parKey xs M = none → v' = .tuple #[.slice none 0 0, .bool false]) ∧ ∀ M', putK parKey xs M = some M' → (M'.map parKey).Nodup → ∃ u, v' = .tuple #[u, .bool true] ∧ Own w' 70 5 u (sortK parKey M').length ((sortK parKey M').flatMap parSL) ∧ ∀ g, u.ownBlock = some g → g ∈ v.ownBlock.toList ∨ w.heap.size ≤ g) := by
  obtain ⟨rfl, hm1, hm2⟩ := (hxs w (Chg.refl _ _)).len
  unfold maxLen at hm2
  refine enter Go.Proofs.Tryz.func101 rfl rfl (by decide) rfl (e := [(0, v), (1, .slice B xs.length d), (2, parF)]) ⟨rfl, rfl, rfl, trivial⟩ ?_
  refine run ?_
  refine go T 2 rfl ?_
  refine o1 rfl ?_
  refine op_box rfl rfl (fun gf w1 hs1 hc1 hg1 => ?_)
  have hg1 : Blk w1 gf 150 [parF] := hg1
  have hs1 : w.heap.size ≤ gf := hs1
  have hown1 := hown.keep0 hc1
  have hc0 : Chg v.ownBlock.toList w w1 := hc1.mono (fun k hk _ => by cases hk)
  refine go T 13 rfl ?_
  refine W_loop (σ := Nat × List ParS × Value) (fun s => [(0, s.2.2), (5, .pointer (some ⟨gf, 0, none⟩)), (10, .slice B xs.length d), (11, .int .i64 xs.length), (12, .int .i64 s.1)])
    (fun s w' => s.1 ≤ xs.length ∧ putK parKey xs M = putK parKey (xs.drop s.1) s.2.1 ∧ s.2.1.length = M.length + s.1 ∧ Chg v.ownBlock.toList w w' ∧ Own w' 70 5 s.2.2 s.2.1.length (s.2.1.flatMap parSL) ∧ (∀ g, s.2.2.ownBlock = some g → g ∈ v.ownBlock.toList ∨ w.heap.size ≤ g) ∧ Blk w' gf 150 [parF])
    (fun s => xs.length - s.1) (0, M, v) ⟨rfl, rfl, rfl, rfl, rfl, trivial⟩ ⟨by omega, by simp, by simp, hc0, hown1, fun g hg => .inl (by simpa using hg), hg1⟩ ?_
  rintro ⟨i, N, u⟩ w3 ⟨hi, hpk, hNM, hc3, hu3, hf3, hg3⟩
  dsimp only at hi hpk hNM hc3 hu3 hf3 hg3 ⊢
  obtain ⟨Au, cu, rfl, hcu1, hcu2⟩ := hu3.form
  refine run ?_
  refine go T 2 rfl ?_
  refine ltS rfl rfl rfl rfl (fun hcmp => ?_) (fun hcmp => ?_)
  · have hi2 : i < xs.length := by omega
    obtain ⟨ad, hA, hel⟩ := (hxs w3 hc3).at (i := i) (List.getElem?_eq_getElem hi2)
    subst hA
    have hdrop : xs.drop i = xs[i] :: xs.drop (i + 1) := List.drop_eq_getElem_cons hi2
    rw [hdrop] at hpk
    generalize xs[i] = x at *
    refine go T 10 rfl ?_
    refine o1 rfl (op_indexK T rfl rfl rfl rfl rfl (by omega) ?_)
    refine o1 rfl (op_loadE T hel rfl rfl rfl rfl rfl ?_)
    refine o1 rfl ?_
    refine op_alloc T rfl rfl (fun gn w4 hs4 hc4 hg4 => ?_)
    have hg4 : Blk w4 gn 70 [.int .i64 0, .slice none 0 0, .slice none 0 0, .int .i64 0, .int .u32 0] := hg4
    have hs4 : w3.heap.size ≤ gn := hs4
    refine op0 rfl rfl ?_
    refine op_store_agg T rfl rfl rfl rfl rfl (parS_all x) hg4 (by exact Nat.le_of_ble_eq_true rfl) (fun w5 hc5 hg5 _ => ?_)
    have hg5 : Blk w5 gn 70 (parSL x) := hg5
    have hc35 : Chg [] w3 w5 := hc4.trans hc5 (fun k hk hlt => by simp at hk; omega)
    have hu5 := hu3.keep0 hc35
    have hg5f := hg3.keep0 hc35
    clear hg4
    refine go T 6 rfl ?_
    refine o1 rfl ?_
    refine op_makeFunc (fv := #[]) (cv := #[ptrV gf, ptrV gn]) rfl rfl rfl ?_
    refine o1 rfl ?_
    refine op_call rfl rfl rfl (hasParS_has Au _ cu N _ _ (fun s => decide (parKey x = parKey s)) (fun s => decide (x.1.p.group = s.p.group)) (fun _ => rfl) (hu5.readsK parS_len) (fun wq s hq => putPar1_has gf gn x.1 s wq (hg5f.keep0 hq) (hg5.keep0 hq))) ?_
    rintro _ w6 ⟨hc6, rfl⟩
    have hu6 := hu5.keep0 hc6
    have hg6 := hg5f.keep0 hc6
    have hg6n := hg5.keep0 hc6
    have hc06 := hc3.trans' (hc35.trans' hc6)
    by_cases hany : (N.any fun s => decide (parKey x = parKey s)) = true
    · rw [putK, if_pos hany] at hpk
      rw [hany]
      refine go T 13 rfl ?_
      refine rndR ?_
      refine go T 2 rfl ?_
      exact post2 (.inl rfl) rfl rfl rfl ⟨hc06, fun _ => rfl, fun L' h => by rw [hpk] at h; cases h⟩
    · rw [putK, if_neg hany] at hpk
      rw [Bool.eq_false_iff.2 hany]
      refine go T 7 rfl ?_
      refine o1 rfl (op_load_agg T rfl rfl rfl rfl hg6n (by exact Nat.le_of_ble_eq_true rfl) (by exact rfl) ?_)
      refine o1 rfl ?_
      refine op_buildSlice T rfl rfl rfl rfl rfl rfl rfl (fun g7 w7 hs7 hc7 hg7 => ?_)
      have hg7 : Blk w7 g7 70 (parSL x) := hg7
      have hu7 := hu6.keep0 hc7
      have hg7f := hg6.keep0 hc7
      have hc07 := hc06.trans' hc7
      refine o1 rfl ?_
      refine op_append T (n := N.length) (xs := N.flatMap parSL) (m := 1) (news := parSL x) rfl rfl rfl rfl rfl rfl rfl rfl hu7 rfl ?_ (by unfold maxLen; omega) (by show (N.length + 1) * 72 ≤ _; omega) ?_
      · intro j u hj
        exact ⟨⟨_, rfl, by rw [add_plain]; exact hg7.cell hj⟩, parS_one _ u (List.mem_of_getElem? hj)⟩
      · intro v8 w8 hu8 hc8 hb8 _
        have hfr : ∀ h, v8.ownBlock = some h → h ∈ v.ownBlock.toList ∨ w.heap.size ≤ h := fun h hh => by
          rcases hb8 with hb | ⟨g', hb, hge⟩
          · exact hf3 h (by rw [← hb]; exact hh)
          · rw [hb] at hh; injection hh with hh; have := hc07.size; exact .inr (by omega)
        have hc08 : Chg v.ownBlock.toList w w8 := hc07.trans hc8 (fun k hk hlt => (hf3 k (by simpa using hk)).resolve_right (by omega))
        have hg8f := hg7f.keep hc8 (fun hm => by
          obtain ⟨cur, hrow⟩ := hu7.row (show _ = some gf by simpa using hm)
          exact hg7f.ne_ hrow (by decide) rfl)
        refine go T 5 rfl ?_
        refine adI rfl rfl rfl rfl (by omega) (by omega) ?_
        refine go T 2 rfl ?_
        refine Round_n (i + 1, N ++ [x], v8) ⟨rfl, rfl, rfl, rfl, rfl, trivial⟩ ⟨by dsimp only; omega, hpk, by dsimp only; rw [List.length_append, List.length_singleton]; omega, hc08, ?_, hfr, hg8f⟩ (by dsimp only; omega)
        dsimp only
        rw [List.length_append, List.flatMap_append]
        simpa using hu8
  obtain rfl : i = xs.length := by omega
  rw [List.drop_length, putK] at hpk
  have hgfo : gf ∉ (Value.slice Au N.length cu).ownBlock.toList := fun hm => by
    obtain ⟨cur, hrow⟩ := hu3.row (show _ = some gf by simpa using hm)
    exact hg3.ne_ hrow (by decide) rfl
  refine go T 6 rfl ?_
  refine rndX ?_
  refine go T 5 rfl ?_
  refine o1 rfl ?_
  refine op_makeFunc (fv := #[]) (cv := #[ptrV gf]) rfl rfl rfl ?_
  refine o1 rfl ?_
  refine op_call rfl rfl rfl (sortPar0_has gf _ N w3 hu3 (by omega) (hg3.cell rfl) hgfo) ?_
  rintro _ w4 ⟨rfl, hc4, N', hp, hpw, hu4⟩
  have hlen4 : N'.length = N.length := hp.length_eq
  have hc04 : Chg v.ownBlock.toList w w4 := hc3.trans hc4 (fun k hk hlt => (hf3 k (by simpa using hk)).resolve_right (by omega))
  refine go T 10 rfl ?_
  refine post2 (.inl rfl) rfl rfl rfl ⟨hc04, ?_, ?_⟩
  · intro h; rw [hpk] at h; cases h
  · intro M' h hn
    rw [hpk] at h; injection h with h; subst h
    obtain rfl := sortK_unique (key := parKey) hn hp hpw
    refine ⟨_, rfl, ?_, hf3⟩
    rw [hlen4] at hu4 ⊢
    exact hu4
end Go.Proofs.YtiadjkjlifnopaaGreatDoor.Tryz
/-! Manifests: later, whether all went, and the first parts of fine. -/
set_option linter.unusedVariables false
namespace Go.Vc
open Go
def laterM (was is_ : Int) : Int × Bool := if is_ = 0 then (was, true) else (is_, decide (was ≤ is_))
def sealedAt (n : Int) (s : SegM) : Bool := decide (s.num = n) && s.sealed
def fineM (S : List SegM) (Q : List ParV) (nx : Int) (X : List ParV) : Bool :=
  (X.all fun q => q.p.nums.all fun n => S.any (sealedAt n)) && (decide (max S.length Q.length ≤ 60) && (!(S.any fun s => decide (nx ≤ s.num)) && !(Q.any fun q => decide (nx ≤ q.p.group))))
end Go.Vc
namespace Go.Proofs.YtiadjkjlifnopaaGreatDoor.Tryz
open Go Go.Vc
theorem later_has (was is_ : Int) (w : World) : Has Go.Proofs.Tryz.prog 102 #[.int .i64 was, .int .i64 is_] w (fun v w' => w' = w ∧ v = .tuple #[.int .i64 (laterM was is_).1, .bool (laterM was is_).2]) := by
  refine enter Go.Proofs.Tryz.func102 rfl rfl (by decide) rfl (e := [(0, .int .i64 was), (1, .int .i64 is_)]) ⟨rfl, rfl, trivial⟩ ?_
  unfold laterM
  by_cases h0 : is_ = 0
  · rw [if_pos h0]
    refine run ?_
    refine go T 10 rfl ?_
    refine eqT rfl rfl rfl rfl (by omega) ?_
    refine go T 12 rfl ?_
    exact post2 (.inl rfl) rfl rfl rfl ⟨rfl, rfl⟩
  · rw [if_neg h0]
    by_cases h1 : was ≤ is_
    · rw [decide_eq_true h1]
      refine run ?_
      refine go T 10 rfl ?_
      refine eqF rfl rfl rfl rfl (by omega) ?_
      refine go T 10 rfl ?_
      refine geT rfl rfl rfl rfl (by omega) ?_
      refine go T 5 rfl ?_
      exact post2 (.inl rfl) rfl rfl rfl ⟨rfl, rfl⟩
    · rw [decide_eq_false h1]
      refine run ?_
      refine go T 10 rfl ?_
      refine eqF rfl rfl rfl rfl (by omega) ?_
      refine go T 10 rfl ?_
      refine geF rfl rfl rfl rfl (by omega) ?_
      refine go T 5 rfl ?_
      exact post2 (.inl rfl) rfl rfl rfl ⟨rfl, rfl⟩
theorem fine1_has (gn : Nat) (s : SegM) (n : Int) (w : World) (hn : Blk w gn 2 [.int .i64 n]) :
    Has Go.Proofs.Tryz.prog 152 #[.agg (segL s).toArray, ptrV gn] w (fun v w' => Chg [] w w' ∧ v = .bool (sealedAt n s)) := by
  refine enter Go.Proofs.Tryz.func152 rfl rfl (by decide) rfl (e := [(0, .agg (segL s).toArray), (1, ptrV gn)]) ⟨rfl, rfl, trivial⟩ ?_
  unfold ptrV sealedAt
  refine run ?_
  refine go T 2 rfl ?_
  refine o1 rfl ?_
  refine op_box rfl rfl (fun g w1 hs1 hc1 hg1 => ?_)
  have hg1 : Blk w1 g 26 (segL s) := hg1
  have hn1 := hn.keep0 hc1
  unfold segL at hg1
  by_cases h : s.num = n
  · rw [decide_eq_true h, Bool.true_and]
    refine go T 6 rfl ?_
    refine ldB T hg1 rfl rfl rfl rfl rfl rfl ?_
    refine ldB T hn1 rfl rfl rfl rfl rfl rfl ?_
    refine eqT rfl rfl rfl rfl (by omega) ?_
    refine go T 2 rfl ?_
    refine ldB T hg1 rfl rfl rfl rfl rfl rfl ?_
    refine go T 5 rfl ?_
    exact post1 (.inl rfl) rfl rfl ⟨hc1, rfl⟩
  · rw [decide_eq_false h, Bool.false_and]
    refine go T 6 rfl ?_
    refine ldB T hg1 rfl rfl rfl rfl rfl rfl ?_
    refine ldB T hn1 rfl rfl rfl rfl rfl rfl ?_
    refine eqF rfl rfl rfl rfl (by omega) ?_
    refine go T 8 rfl ?_
    exact post1 (.inl rfl) rfl rfl ⟨hc1, rfl⟩
theorem fine2_has (gs : Nat) (s : SegM) (va vp : Value) (nx sq : Int) (w : World) (hst : Blk w gs 99 [va, vp, .int .i64 nx, .int .i64 sq]) :
    Has Go.Proofs.Tryz.prog 153 #[.agg (segL s).toArray, ptrV gs] w (fun v w' => Chg [] w w' ∧ v = .bool (decide (nx ≤ s.num))) := by
  refine enter Go.Proofs.Tryz.func153 rfl rfl (by decide) rfl (e := [(0, .agg (segL s).toArray), (1, ptrV gs)]) ⟨rfl, rfl, trivial⟩ ?_
  unfold ptrV
  refine run ?_
  refine go T 2 rfl ?_
  refine o1 rfl ?_
  refine op_box rfl rfl (fun g w1 hs1 hc1 hg1 => ?_)
  have hg1 : Blk w1 g 26 (segL s) := hg1
  have hn1 := hst.keep0 hc1
  unfold segL at hg1
  by_cases h : nx ≤ s.num
  · rw [decide_eq_true h]
    refine go T 6 rfl ?_
    refine ldB T hg1 rfl rfl rfl rfl rfl rfl ?_
    refine go T 1 rfl ?_
    refine ldB T hn1 rfl rfl rfl rfl rfl rfl ?_
    refine geT rfl rfl rfl rfl (by omega) ?_
    refine go T 4 rfl ?_
    exact post1 (.inl rfl) rfl rfl ⟨hc1, rfl⟩
  · rw [decide_eq_false h]
    refine go T 6 rfl ?_
    refine ldB T hg1 rfl rfl rfl rfl rfl rfl ?_
    refine go T 1 rfl ?_
    refine ldB T hn1 rfl rfl rfl rfl rfl rfl ?_
    refine geF rfl rfl rfl rfl (by omega) ?_
    refine go T 4 rfl ?_
    exact post1 (.inl rfl) rfl rfl ⟨hc1, rfl⟩
theorem fine3_has (gs : Nat) (s : ParV) (va vp : Value) (nx sq : Int) (w : World) (hst : Blk w gs 99 [va, vp, .int .i64 nx, .int .i64 sq]) :
    Has Go.Proofs.Tryz.prog 154 #[.agg (parL s).toArray, ptrV gs] w (fun v w' => Chg [] w w' ∧ v = .bool (decide (nx ≤ s.p.group))) := by
  refine enter Go.Proofs.Tryz.func154 rfl rfl (by decide) rfl (e := [(0, .agg (parL s).toArray), (1, ptrV gs)]) ⟨rfl, rfl, trivial⟩ ?_
  unfold ptrV
  refine run ?_
  refine go T 2 rfl ?_
  refine o1 rfl ?_
  refine op_box rfl rfl (fun g w1 hs1 hc1 hg1 => ?_)
  have hg1 : Blk w1 g 70 (parL s) := hg1
  have hn1 := hst.keep0 hc1
  unfold parL at hg1
  by_cases h : nx ≤ s.p.group
  · rw [decide_eq_true h]
    refine go T 6 rfl ?_
    refine ldB T hg1 rfl rfl rfl rfl rfl rfl ?_
    refine go T 1 rfl ?_
    refine ldB T hn1 rfl rfl rfl rfl rfl rfl ?_
    refine geT rfl rfl rfl rfl (by omega) ?_
    refine go T 4 rfl ?_
    exact post1 (.inl rfl) rfl rfl ⟨hc1, rfl⟩
  · rw [decide_eq_false h]
    refine go T 6 rfl ?_
    refine ldB T hg1 rfl rfl rfl rfl rfl rfl ?_
    refine go T 1 rfl ?_
    refine ldB T hn1 rfl rfl rfl rfl rfl rfl ?_
    refine geF rfl rfl rfl rfl (by omega) ?_
    refine go T 4 rfl ?_
    exact post1 (.inl rfl) rfl rfl ⟨hc1, rfl⟩
end Go.Proofs.YtiadjkjlifnopaaGreatDoor.Tryz
/-! Manifests: fine. -/
set_option linter.unusedVariables false
namespace Go.Vc
open Go
theorem all_no {α : Type} {l : List α} {P : α → Bool} {i : Nat} {x : α} (h : l[i]? = some x) (hp : P x = false) : l.all P = false := by
  rw [Bool.eq_false_iff]
  intro ha
  have := List.all_eq_true.1 ha x (List.mem_of_getElem? h)
  rw [hp] at this; cases this
theorem all_take {α : Type} {l : List α} {P : α → Bool} {i : Nat} {x : α} (h : l[i]? = some x) (ha : (l.take i).all P = true) (hp : P x = true) : (l.take (i + 1)).all P = true := by
  rw [List.take_add_one, h, List.all_append, ha]
  simp [hp]
end Go.Vc
namespace Go.Proofs.YtiadjkjlifnopaaGreatDoor.Tryz
open Go Go.Vc
set_option maxHeartbeats 4000000 in
theorem fine_has (va vp : Value) (nx sq : Int) (B : Option Addr) (m d : Nat) (S : List SegM) (Q X : List ParV) (w : World) (hS : SliceK 6 (RdL segL) w va S) (hQ : SliceK 5 (RdL parL) w vp Q) (hX : SliceK 5 (RdL parL) w (.slice B m d) X) (hp : ∀ q ∈ X, PRd w q) (hone : ∀ q ∈ X, q.vn.oneCell' = true ∧ q.vs.oneCell' = true) :
    Has Go.Proofs.Tryz.prog 104 #[.agg #[va, vp, .int .i64 nx, .int .i64 sq], .slice B m d] w (fun v w' => Chg [] w w' ∧ v = .bool (fineM S Q nx X)) := by
  obtain ⟨rfl, hm1, hm2⟩ := hX.len
  unfold maxLen at hm2
  obtain ⟨As, cs, rfl, hs1, hs2⟩ := hS.form
  obtain ⟨Aq, cq, rfl, hq1, hq2⟩ := hQ.form
  unfold maxLen at hs2 hq2
  refine enter Go.Proofs.Tryz.func104 rfl rfl (by decide) rfl (e := [(0, .agg #[.slice As S.length cs, .slice Aq Q.length cq, .int .i64 nx, .int .i64 sq]), (1, .slice B X.length d)]) ⟨rfl, rfl, trivial⟩ ?_
  refine run ?_
  refine go T 2 rfl ?_
  refine o1 rfl ?_
  refine op_box rfl rfl (fun gs w1 hs1 hc1 hg1 => ?_)
  have hg1 : Blk w1 gs 99 [.slice As S.length cs, .slice Aq Q.length cq, .int .i64 nx, .int .i64 sq] := hg1
  refine go T 12 rfl ?_
  refine W_loop (σ := Nat) (fun k => [(2, .pointer (some ⟨gs, 0, none⟩)), (9, .slice B X.length d), (10, .int .i64 X.length), (11, .int .i64 (k : Int))])
    (fun k w' => k ≤ X.length ∧ Chg [] w1 w' ∧ (X.take k).all (fun q => q.p.nums.all fun n => S.any (sealedAt n)) = true)
    (fun k => X.length - k) 0 ⟨rfl, rfl, rfl, rfl, trivial⟩ ⟨by omega, Chg.refl _ _, by simp⟩ ?_
  rintro k w3 ⟨hk, hc3, hall⟩
  have hg3 := hg1.keep0 hc3
  refine run ?_
  refine go T 2 rfl ?_
  refine ltS rfl rfl rfl rfl (fun hcmp => ?_) (fun hcmp => ?_)
  · have hk2 : k < X.length := by omega
    have hx : X[k]? = some X[k] := List.getElem?_eq_getElem hk2
    have hmem : X[k] ∈ X := List.getElem_mem hk2
    obtain ⟨ad, hA, hel⟩ := hX.at hx
    have hpr := hp _ hmem
    have hon := hone _ hmem
    subst hA
    generalize X[k] = q at *
    have hc03 : Chg [] w w3 := hc1.trans' hc3
    obtain ⟨hnr, _⟩ := hpr
    obtain ⟨An, cn, hvn, hn1, hn2⟩ := hnr.form
    unfold maxLen at hn2
    refine go T 10 rfl ?_
    refine o1 rfl (op_indexK T rfl rfl rfl rfl rfl (by omega) ?_)
    refine o1 rfl ?_
    refine op_load_cells (cs := parL q) T rfl rfl rfl rfl rfl (fun j u hj => hc03.cell0 (by rw [add_of_add]; exact hel j u hj)) ?_
    refine o1 rfl ?_
    refine op_alloc T rfl rfl (fun g6 w4 hs4 hc4 hg4 => ?_)
    have hg4 : Blk w4 g6 70 [.int .i64 0, .slice none 0 0, .slice none 0 0, .int .i64 0, .int .u32 0] := hg4
    have hs4 : w3.heap.size ≤ g6 := hs4
    refine op0 rfl rfl ?_
    refine op_store_agg T rfl rfl rfl rfl rfl (List.all_eq_true.2 fun u hu => by
      have hu : u ∈ parL q := hu
      simp only [parL, List.mem_cons, List.not_mem_nil, or_false] at hu
      rcases hu with rfl | rfl | rfl | rfl | rfl
      · rfl
      · exact hon.1
      · exact hon.2
      · rfl
      · rfl) hg4 (by exact Nat.le_of_ble_eq_true rfl) (fun w5 hc5 hg5 _ => ?_)
    have hg5 : Blk w5 g6 70 (parL q) := hg5
    have hc35 : Chg [] w3 w5 := hc4.trans hc5 (fun k hk hlt => by simp at hk; omega)
    have hc15 : Chg [] w1 w5 := hc3.trans' hc35
    clear hg4
    have hg5s := hg3.keep0 hc35
    unfold parL at hg5
    rw [hvn] at hg5
    refine go T 5 rfl ?_
    refine ldB T hg5 rfl rfl rfl rfl rfl rfl ?_
    refine go T 5 rfl ?_
    refine W_loop (σ := Nat) (fun j => [(2, .pointer (some ⟨gs, 0, none⟩)), (9, .slice (some ad) X.length d), (10, .int .i64 X.length), (11, .int .i64 (k : Int)), (16, .slice An q.p.nums.length cn), (17, .int .i64 q.p.nums.length), (18, .int .i64 (j : Int))])
      (fun j w' => j ≤ q.p.nums.length ∧ Chg [] w1 w' ∧ (q.p.nums.take j).all (fun n => S.any (sealedAt n)) = true)
      (fun j => q.p.nums.length - j) 0 ⟨rfl, rfl, rfl, rfl, rfl, rfl, rfl, trivial⟩ ⟨by omega, hc15, by simp⟩ ?_
    rintro j w6 ⟨hj, hc6, hallj⟩
    have hg6 := hg1.keep0 hc6
    refine run ?_
    refine go T 2 rfl ?_
    refine ltS rfl rfl rfl rfl (fun hcmp => ?_) (fun hcmp => ?_)
    · have hj2 : j < q.p.nums.length := by omega
      have hy : q.p.nums[j]? = some q.p.nums[j] := List.getElem?_eq_getElem hj2
      rw [hvn] at hnr
      obtain ⟨adn, u0, rfl, hu0, rfl, _, _⟩ := hnr.get hy
      generalize q.p.nums[j] = n at *
      have hu0' := (hc1.trans' hc6).cell0 hu0
      refine go T 10 rfl ?_
      refine o1 rfl (op_index_nat T rfl rfl rfl rfl rfl rfl (by omega) ?_)
      refine o1 rfl (op_load T rfl rfl rfl rfl (by assumption) ?_)
      refine o1 rfl ?_
      refine op_alloc T rfl rfl (fun gn w7 hs7 hc7 hg7 => ?_)
      have hg7 : Blk w7 gn 2 [.int .i64 0] := hg7
      have hs7 : w6.heap.size ≤ gn := hs7
      refine op0 rfl rfl ?_
      refine op_store T rfl rfl rfl rfl rfl rfl hg7 (by simp) (fun w8 hc8 hg8 _ => ?_)
      have hg8 : Blk w8 gn 2 [.int .i64 n] := hg8
      have hc68 : Chg [] w6 w8 := hc7.trans hc8 (fun k hk hlt => by simp at hk; omega)
      have hc18 : Chg [] w1 w8 := hc6.trans' hc68
      have hg8s := hg6.keep0 hc68
      clear hg7
      refine go T 5 rfl ?_
      refine ldB T hg8s rfl rfl rfl rfl rfl rfl ?_
      refine o1 rfl ?_
      refine op_makeFunc (fv := #[]) (cv := #[ptrV gn]) rfl rfl rfl ?_
      refine o1 rfl ?_
      refine op_call rfl rfl rfl (hasSeg_has As _ cs S _ _ (sealedAt n) (hS.keepR (hc1.trans' hc18)) (fun wq s hq _ => fine1_has gn s n wq (hg8.keep0 hq))) ?_
      rintro _ w9 ⟨hc9, rfl⟩
      have hc19 := hc18.trans' hc9
      cases hany : S.any (sealedAt n) with
      | false =>
        have hno : (q.p.nums.all fun n => S.any (sealedAt n)) = false := all_no hy hany
        have hno2 : (X.all fun q => q.p.nums.all fun n => S.any (sealedAt n)) = false := all_no hx hno
        refine go T 12 rfl ?_
        refine rndR ?_
        refine go T 3 rfl ?_
        refine rndR ?_
        refine go T 2 rfl ?_
        exact post1 (.inl rfl) rfl rfl ⟨hc1.trans' hc19, by unfold fineM; rw [hno2, Bool.false_and]⟩
      | true =>
        refine go T 8 rfl ?_
        refine adI rfl rfl rfl rfl (by omega) (by omega) ?_
        refine go T 2 rfl ?_
        exact Round_n (j + 1) ⟨rfl, rfl, rfl, rfl, rfl, rfl, rfl, trivial⟩ ⟨by omega, hc19, all_take hy hallj hany⟩ (by omega)
    obtain rfl : j = q.p.nums.length := by omega
    rw [List.take_length] at hallj
    refine go T 6 rfl ?_
    refine rndX ?_
    refine go T 4 rfl ?_
    refine adI rfl rfl rfl rfl (by omega) (by omega) ?_
    refine go T 2 rfl ?_
    exact Round_n (k + 1) ⟨rfl, rfl, rfl, rfl, trivial⟩ ⟨by omega, hc6, all_take hx hall hallj⟩ (by omega)
  obtain rfl : k = X.length := by omega
  rw [List.take_length] at hall
  have hc03 : Chg [] w w3 := hc1.trans' hc3
  unfold fineM
  rw [hall, Bool.true_and]
  by_cases h60 : max S.length Q.length ≤ 60
  · rw [decide_eq_true h60, Bool.true_and]
    have h60a : (max (S.length : Int) Q.length) ≤ 60 := by omega
    refine go T 6 rfl ?_
    refine rndX ?_
    refine go T 5 rfl ?_
    refine ldB T hg3 rfl rfl rfl rfl rfl rfl ?_
    refine go T 2 rfl ?_
    refine ldB T hg3 rfl rfl rfl rfl rfl rfl ?_
    refine go T 1 rfl ?_
    refine o1 rfl (op_max rfl rfl rfl ?_)
    refine leT rfl rfl rfl rfl (by omega) ?_
    refine go T 2 rfl ?_
    refine ldB T hg3 rfl rfl rfl rfl rfl rfl ?_
    refine o1 rfl ?_
    refine op_makeFunc (fv := #[]) (cv := #[ptrV gs]) rfl rfl rfl ?_
    refine o1 rfl ?_
    refine op_call rfl rfl rfl (hasSeg_has As _ cs S _ _ (fun s => decide (nx ≤ s.num)) (hS.keepR hc03) (fun wq s hq _ => fine2_has gs s _ _ nx sq wq (hg3.keep0 hq))) ?_
    rintro _ w4 ⟨hc4, rfl⟩
    have hg4 := hg3.keep0 hc4
    cases hany : S.any (fun s => decide (nx ≤ s.num)) with
    | true =>
      refine go T 13 rfl ?_
      exact post1 (.inl rfl) rfl rfl ⟨hc03.trans' hc4, rfl⟩
    | false =>
      refine go T 4 rfl ?_
      refine ldB T hg4 rfl rfl rfl rfl rfl rfl ?_
      refine o1 rfl ?_
      refine op_makeFunc (fv := #[]) (cv := #[ptrV gs]) rfl rfl rfl ?_
      refine o1 rfl ?_
      refine op_call rfl rfl rfl (hasPar_has Aq _ cq Q _ _ (fun s => decide (nx ≤ s.p.group)) (hQ.keepR (hc03.trans' hc4)) (fun wq s hq _ => fine3_has gs s _ _ nx sq wq (hg4.keep0 hq))) ?_
      rintro _ w5 ⟨hc5, rfl⟩
      cases hany2 : Q.any (fun s => decide (nx ≤ s.p.group)) with
      | true =>
        refine go T 6 rfl ?_
        exact post1 (.inl rfl) rfl rfl ⟨(hc03.trans' hc4).trans' hc5, rfl⟩
      | false =>
        refine go T 6 rfl ?_
        exact post1 (.inl rfl) rfl rfl ⟨(hc03.trans' hc4).trans' hc5, rfl⟩
  · rw [decide_eq_false h60, Bool.false_and]
    have h60a : ¬ (max (S.length : Int) Q.length) ≤ 60 := by omega
    refine go T 6 rfl ?_
    refine rndX ?_
    refine go T 5 rfl ?_
    refine ldB T hg3 rfl rfl rfl rfl rfl rfl ?_
    refine go T 2 rfl ?_
    refine ldB T hg3 rfl rfl rfl rfl rfl rfl ?_
    refine go T 1 rfl ?_
    refine o1 rfl (op_max rfl rfl rfl ?_)
    refine leF rfl rfl rfl rfl (by omega) ?_
    refine go T 18 rfl ?_
    exact post1 (.inl rfl) rfl rfl ⟨hc03, rfl⟩
end Go.Proofs.YtiadjkjlifnopaaGreatDoor.Tryz
/-! Manifests: whether one of some truths is x; an array as a slice; what apply makes, in plain words. -/
set_option linter.unusedVariables false
namespace Go.Vc
open Go
theorem op_slice_arr {P : Program} {N : Nat} {e : Env} {w : World} {o : Oper} {K : Value → World → Prop} (T : Types P) {x : Operand} {t el n g : Nat} {d : TInfo}
    (hop : o.op = .slice t x none none none) (hx : ev e x = some (.pointer (some ⟨g, 0, none⟩))) (ht : T.d t = some (.array n el)) (hel : T.tbl el = some d) (hn : 0 < n) (h : K (.slice (some ⟨g, 0, none⟩) n n) w) : OpW P N o e w K := by
  obtain ⟨q, hq, _, _, _⟩ := T.inf el d hel
  have hn0 : ¬ n = 0 := by omega
  exact OpW_run (fun a ha => by simp [execOp, hop, ha.ev hx, Instr.sliceAt, Instr.sureAddr, Instr.sliceBounds, run_underlying (T.und' ht), sizeOf, typeInfo, hq, hn0, Result.andThen]; rfl) h
structure StM where
  segs : List SegM
  pars : List ParS
  next : Int
  seq : Int
/-- An edit at a state: the new state, or none. first: as it is read, its parities' segments need not stand. -/
def applyM (st : StM) (e : EditM) (X : List ParS) (first : Bool) : Option StM :=
  let t1 := takeK (fun s : SegM => s.num) e.dels st.segs
  let p1 := putK (fun s : SegM => s.num) e.adds (t1.getD [])
  let s2 := (p1.map (sortK (fun s : SegM => s.num))).getD []
  let t2 := takeK parKey e.drops st.pars
  let p2 := putK parKey X (t2.getD [])
  let q2 := (p2.map (sortK parKey)).getD []
  let n := laterM st.next e.next
  let s := laterM st.seq e.seq
  if (editB e && (t1.isSome && (p1.isSome && (t2.isSome && (p2.isSome && (n.2 && (s.2 && fineM s2 (q2.map (·.1)) n.1 (if first then [] else X.map (·.1))))))))) = true then some ⟨s2, q2, n.1, s.1⟩ else none
end Go.Vc
namespace Go.Proofs.YtiadjkjlifnopaaGreatDoor.Tryz
open Go Go.Vc
set_option maxHeartbeats 1000000 in
theorem indexB_has (A : Option Addr) (n c : Nat) (L : List Bool) (b : Bool) (w : World) (hs : SliceOf Rbool w (.slice A n c) L) :
    Has Go.Proofs.Tryz.prog 88 #[.slice A n c, .bool b] w (fun v w' => w' = w ∧ v = .int .i64 (idxM (fun x => b == x) L)) := by
  obtain ⟨rfl, hl1, hl2⟩ := hs.len
  unfold maxLen at hl2
  refine enter Go.Proofs.Tryz.func88 rfl rfl (by decide) rfl (e := [(0, .slice A L.length c), (1, .bool b)]) ⟨rfl, rfl, trivial⟩ ?_
  refine run ?_
  refine go T 14 rfl ?_
  refine W_loop (σ := Nat) (fun i => [(0, .slice A L.length c), (1, .bool b), (6, .slice A L.length c), (7, .int .i64 L.length), (8, .int .i64 i)])
    (fun (i : Nat) w' => i ≤ L.length ∧ (∀ (j : Nat) y, j < i → L[j]? = some y → (b == y) = false) ∧ w' = w) (fun i => L.length - i) 0 ⟨rfl, rfl, rfl, rfl, rfl, trivial⟩ ⟨by omega, fun j y hj => by omega, rfl⟩ ?_
  rintro i w1 ⟨hi, hb, rfl⟩
  refine run ?_
  refine go T 2 rfl ?_
  refine ltS rfl rfl rfl rfl (fun hcmp => ?_) (fun hcmp => ?_)
  · have hlt : i < L.length := by omega
    have hx := List.getElem?_eq_getElem hlt
    obtain ⟨ad, u, rfl, hu, hur⟩ := hs.get hx
    generalize L[i] = y at *
    obtain rfl : u = .bool y := hur
    refine go T 19 rfl ?_
    refine o1 rfl (op_index_nat T rfl rfl rfl rfl rfl rfl (by omega) ?_)
    refine o1 rfl (op_load T rfl rfl rfl rfl (by assumption) ?_)
    refine o1 rfl ?_
    refine op_eql_bools T rfl rfl rfl rfl ?_
    cases hp : (b == y) with
    | true =>
      rw [idxM_stop (p := fun x => b == x) hx hp hb]
      refine go T 12 rfl ?_
      refine rndR ?_
      refine go T 2 rfl ?_
      exact post1 (.inl rfl) rfl rfl ⟨rfl, rfl⟩
    | false =>
      refine go T 7 rfl ?_
      refine adI rfl rfl rfl rfl (by omega) (by omega) ?_
      refine go T 2 rfl ?_
      refine Round_n (i + 1) ⟨rfl, rfl, rfl, rfl, rfl, trivial⟩ ⟨by omega, fun j z hj hz => ?_, rfl⟩ (by omega)
      by_cases hji : j = i
      · subst hji; rw [hx] at hz; injection hz with hz; subst hz; exact hp
      · exact hb j z (by omega) hz
  · rw [idxM_none (p := fun x => b == x) (l := L) (fun x hx => by
      obtain ⟨j, hj⟩ := List.getElem?_of_mem hx
      have := (List.getElem?_eq_some_iff.1 hj).1
      exact hb j x (by omega) hj)]
    refine go T 6 rfl ?_
    refine rndX ?_
    refine go T 8 rfl ?_
    exact post1 (.inl rfl) rfl rfl ⟨rfl, rfl⟩
theorem hasB_has (A : Option Addr) (n c : Nat) (L : List Bool) (b : Bool) (w : World) (hs : SliceOf Rbool w (.slice A n c) L) :
    Has Go.Proofs.Tryz.prog 103 #[.slice A n c, .bool b] w (fun v w' => w' = w ∧ v = .bool (L.any (fun x => b == x))) := by
  refine enter Go.Proofs.Tryz.func103 rfl rfl (by decide) rfl (e := [(0, .slice A n c), (1, .bool b)]) ⟨rfl, rfl, trivial⟩ ?_
  refine run ?_
  refine go T 9 rfl ?_
  refine o1 rfl ?_
  refine op_call rfl rfl rfl (indexB_has A n c L b w hs) ?_
  rintro _ w ⟨rfl, rfl⟩
  rw [any_idxM]
  by_cases h : 0 ≤ idxM (fun x => b == x) L
  · rw [decide_eq_true h]
    refine geT rfl rfl rfl rfl (by omega) ?_
    refine go T 4 rfl ?_
    exact post1 (.inl rfl) rfl rfl ⟨rfl, rfl⟩
  · rw [decide_eq_false h]
    refine geF rfl rfl rfl rfl (by omega) ?_
    refine go T 4 rfl ?_
    exact post1 (.inl rfl) rfl rfl ⟨rfl, rfl⟩
end Go.Proofs.YtiadjkjlifnopaaGreatDoor.Tryz
/-! Manifests: take and put, what they give in one sentence. -/
set_option linter.unusedVariables false
namespace Go.Vc
open Go
def numK (s : SegM) : Int := s.num
def tookK {α : Type} (key : α → Int) (ns : List Int) (L : List α) : List α := (takeK key ns L).getD []
def putsK {α : Type} (key : α → Int) (xs M : List α) : List α := ((putK key xs M).map (sortK key)).getD []
theorem took_nodup {α : Type} {key : α → Int} {ns : List Int} {L : List α} (h : (L.map key).Nodup) : ((tookK key ns L).map key).Nodup := by
  unfold tookK
  cases ht : takeK key ns L with
  | none => simp
  | some L' => exact ((takeK_sub ht).map key).nodup h
theorem took_len {α : Type} {key : α → Int} {ns : List Int} {L : List α} : (tookK key ns L).length ≤ L.length := by
  unfold tookK
  cases ht : takeK key ns L with
  | none => simp
  | some L' => exact (takeK_sub ht).length_le
theorem sortK_perm {α : Type} (key : α → Int) (L : List α) : (sortK key L).Perm L := isM_perm (le := leK key) L
theorem puts_nodup {α : Type} {key : α → Int} {xs M : List α} (h : (M.map key).Nodup) : ((putsK key xs M).map key).Nodup := by
  unfold putsK
  cases ht : putK key xs M with
  | none => simp
  | some M' => exact ((sortK_perm key M').map key).nodup_iff.2 ((putK_eq ht).2 h)
theorem puts_len {α : Type} {key : α → Int} {xs M : List α} : (putsK key xs M).length ≤ M.length + xs.length := by
  unfold putsK
  cases ht : putK key xs M with
  | none => simp
  | some M' =>
    have h1 := (sortK_perm key M').length_eq
    have h2 := (putK_eq ht).1
    show (sortK key M').length ≤ _
    rw [h1, h2, List.length_append]; exact Nat.le_refl _
end Go.Vc
namespace Go.Proofs.YtiadjkjlifnopaaGreatDoor.Tryz
open Go Go.Vc
theorem takeU_has (v : Value) (L : List SegM) (vn : Value) (ns : List Int) (w : World) (hl : SliceK 6 (RdL segL) w v L) (hns : SliceOf Ri64 w vn ns) (hb : L.length ≤ 1000000) :
    Has Go.Proofs.Tryz.prog 96 #[v, vn, segF] w (fun v' w' => ∃ u, v' = .tuple #[u, .bool (takeK numK ns L).isSome] ∧ Chg [] w w' ∧ Own w' 26 6 u (tookK numK ns L).length ((tookK numK ns L).flatMap segL) ∧ ∀ g, u.ownBlock = some g → w.heap.size ≤ g) := by
  obtain ⟨A, c, rfl, _, _⟩ := hl.form
  obtain ⟨B, d, rfl, _, _⟩ := hns.form
  refine (take_has A _ c L B _ d ns w hl hns hb).mono ?_
  rintro v' w' ⟨hc, h1, h2⟩
  unfold tookK
  change takeK numK ns L = none → _ at h1
  change ∀ L', takeK numK ns L = some L' → _ at h2
  cases h : takeK numK ns L with
  | none => exact ⟨_, h1 h, hc, Own.nil _ _ _, fun g hg => by simp [Value.ownBlock] at hg⟩
  | some L' =>
    obtain ⟨u, e, ho, hf⟩ := h2 L' h
    exact ⟨u, e, hc, ho, hf⟩
theorem putU_has (v : Value) (M : List SegM) (vx : Value) (xs : List SegM) (w : World) (hown : Own w 26 6 v M.length (M.flatMap segL)) (hxs : Firm v.ownBlock.toList w (fun w => SliceK 6 (RdL segL) w vx xs)) (hb : M.length + xs.length ≤ 1000000) (hn : (M.map numK).Nodup) :
    Has Go.Proofs.Tryz.prog 98 #[v, vx, segF] w (fun v' w' => ∃ u, v' = .tuple #[u, .bool (putK numK xs M).isSome] ∧ Chg v.ownBlock.toList w w' ∧ Own w' 26 6 u (putsK numK xs M).length ((putsK numK xs M).flatMap segL) ∧ ∀ g, u.ownBlock = some g → g ∈ v.ownBlock.toList ∨ w.heap.size ≤ g) := by
  obtain ⟨B, d, rfl, _, _⟩ := (hxs w (Chg.refl _ _)).form
  refine (put_has' v M B _ d xs w hown hxs hb).mono ?_
  rintro v' w' ⟨hc, h1, h2⟩
  unfold putsK
  change putK numK xs M = none → _ at h1
  change ∀ M', putK numK xs M = some M' → _ at h2
  cases h : putK numK xs M with
  | none => exact ⟨_, h1 h, hc, Own.nil _ _ _, fun g hg => by simp [Value.ownBlock] at hg⟩
  | some M' =>
    obtain ⟨u, e, ho, hf⟩ := h2 M' h ((putK_eq h).2 hn)
    exact ⟨u, e, hc, ho, hf⟩
theorem takePU_has (v : Value) (L : List ParS) (vn : Value) (ns : List Int) (w : World) (hl : SliceK 5 (RdL parSL) w v L) (hns : SliceOf Ri64 w vn ns) (hb : L.length ≤ 1000000) :
    Has Go.Proofs.Tryz.prog 99 #[v, vn, parF] w (fun v' w' => ∃ u, v' = .tuple #[u, .bool (takeK parKey ns L).isSome] ∧ Chg [] w w' ∧ Own w' 70 5 u (tookK parKey ns L).length ((tookK parKey ns L).flatMap parSL) ∧ ∀ g, u.ownBlock = some g → w.heap.size ≤ g) := by
  obtain ⟨A, c, rfl, _, _⟩ := hl.form
  obtain ⟨B, d, rfl, _, _⟩ := hns.form
  refine (takeP_has A _ c L B _ d ns w hl hns hb).mono ?_
  rintro v' w' ⟨hc, h1, h2⟩
  unfold tookK
  cases h : takeK parKey ns L with
  | none => exact ⟨_, h1 h, hc, Own.nil _ _ _, fun g hg => by simp [Value.ownBlock] at hg⟩
  | some L' =>
    obtain ⟨u, e, ho, hf⟩ := h2 L' h
    exact ⟨u, e, hc, ho, hf⟩
theorem putPU_has (v : Value) (M : List ParS) (vx : Value) (xs : List ParS) (w : World) (hown : Own w 70 5 v M.length (M.flatMap parSL)) (hxs : Firm v.ownBlock.toList w (fun w => SliceK 5 (RdL parSL) w vx xs)) (hb : M.length + xs.length ≤ 1000000) (hn : (M.map parKey).Nodup) :
    Has Go.Proofs.Tryz.prog 101 #[v, vx, parF] w (fun v' w' => ∃ u, v' = .tuple #[u, .bool (putK parKey xs M).isSome] ∧ Chg v.ownBlock.toList w w' ∧ Own w' 70 5 u (putsK parKey xs M).length ((putsK parKey xs M).flatMap parSL) ∧ ∀ g, u.ownBlock = some g → g ∈ v.ownBlock.toList ∨ w.heap.size ≤ g) := by
  obtain ⟨B, d, rfl, _, _⟩ := (hxs w (Chg.refl _ _)).form
  refine (putP_has' v M B _ d xs w hown hxs hb).mono ?_
  rintro v' w' ⟨hc, h1, h2⟩
  unfold putsK
  cases h : putK parKey xs M with
  | none => exact ⟨_, h1 h, hc, Own.nil _ _ _, fun g hg => by simp [Value.ownBlock] at hg⟩
  | some M' =>
    obtain ⟨u, e, ho, hf⟩ := h2 M' h ((putK_eq h).2 hn)
    exact ⟨u, e, hc, ho, hf⟩
end Go.Proofs.YtiadjkjlifnopaaGreatDoor.Tryz
/-! Manifests: apply. -/
set_option linter.unusedVariables false
namespace Go.Vc
open Go
theorem own_one {w : World} {t : TypeId} {k n : Nat} {v : Value} {xs : List Value} (h : Own w t k v n xs) : v.oneCell' = true := by
  obtain ⟨A, c, rfl, _, _⟩ := h.form
  rfl
theorem par_reads_inv {w : World} {v : Value} {L : List ParS} (h : SliceK 5 (RdL parL) w v (L.map (·.1))) : SliceK 5 (RdL parSL) w v L := by
  unfold SliceK at *
  obtain ⟨A, c, rfl, h1, h2, h⟩ := h
  rw [List.length_map] at h1 ⊢
  refine ⟨A, c, rfl, h1, h2, fun i x hx => ?_⟩
  exact h i x.1 (by rw [List.getElem?_map, hx]; rfl)
end Go.Vc
namespace Go.Proofs.YtiadjkjlifnopaaGreatDoor.Tryz
open Go Go.Vc
set_option maxHeartbeats 8000000 in
theorem apply_has (st : StM) (va vp : Value) (x : EdV) (X : List ParS) (first : Bool) (w : World) (hS : SliceK 6 (RdL segL) w va st.segs) (hQ : SliceK 5 (RdL parSL) w vp st.pars) (hI : EdI x.e) (hr : ERd w x) (hXQ : x.Q = X.map (·.1)) (hbs : st.segs.length ≤ 1000) (hbq : st.pars.length ≤ 1000) (hns : (st.segs.map numK).Nodup) (hnq : (st.pars.map parKey).Nodup) :
    Has Go.Proofs.Tryz.prog 57 #[.agg #[va, vp, .int .i64 st.next, .int .i64 st.seq], .agg (edL x).toArray, .bool first] w (fun v w' => Chg [] w w' ∧ (applyM st x.e X first = none → v = .tuple #[.agg #[va, vp, .int .i64 st.next, .int .i64 st.seq], .bool false]) ∧ ∀ st', applyM st x.e X first = some st' → ∃ ua up, v = .tuple #[.agg #[ua, up, .int .i64 st'.next, .int .i64 st'.seq], .bool true] ∧ Own w' 26 6 ua st'.segs.length (st'.segs.flatMap segL) ∧ Own w' 70 5 up st'.pars.length (st'.pars.flatMap parSL) ∧ (∀ g, ua.ownBlock = some g → w.heap.size ≤ g) ∧ ∀ g, up.ownBlock = some g → w.heap.size ≤ g) := by
  refine enter Go.Proofs.Tryz.func57 rfl rfl (by decide) rfl (e := [(0, .agg #[va, vp, .int .i64 st.next, .int .i64 st.seq]), (1, .agg (edL x).toArray), (2, .bool first)]) ⟨rfl, rfl, rfl, trivial⟩ ?_
  obtain ⟨As, cs, rfl, _, _⟩ := hS.form
  obtain ⟨Aq, cq, rfl, _, _⟩ := hQ.form
  refine run ?_
  refine go T 2 rfl ?_
  refine o1 rfl ?_
  refine op_box rfl rfl (fun g3 w1 hs1 hc1 hg3 => ?_)
  have hg3 : Blk w1 g3 99 [.slice As st.segs.length cs, .slice Aq st.pars.length cq, .int .i64 st.next, .int .i64 st.seq] := hg3
  have hs1 : w.heap.size ≤ g3 := hs1
  refine o1 rfl ?_
  refine op_box rfl rfl (fun g4 w2 hs2 hc2 hg4 => ?_)
  have hg4 : Blk w2 g4 49 (edL x) := hg4
  have hs2 : w1.heap.size ≤ g4 := hs2
  have hg3l := hg3.lt
  replace hg3 := hg3.keep0 hc2
  have hc02 := hc1.trans' hc2
  refine o1 rfl ?_
  refine op_alloc T rfl rfl (fun g6 w3 hs3 hc3 hg6 => ?_)
  have hg6 : Blk w3 g6 99 [.slice none 0 0, .slice none 0 0, .int .i64 0, .int .i64 0] := hg6
  have hs3 : w2.heap.size ≤ g6 := hs3
  have hg4l := hg4.lt
  replace hg3 := hg3.keep0 hc3
  replace hg4 := hg4.keep0 hc3
  have hc03 := hc02.trans' hc3
  refine go T 6 rfl ?_
  refine o1 rfl (op_load_agg T rfl rfl rfl rfl hg4 (by exact Nat.le_of_ble_eq_true rfl) (by exact rfl) ?_)
  refine o1 rfl ?_
  refine op_call rfl rfl rfl (checkE_has x hI (hr.keep0 hc03)) ?_
  rintro _ w4 ⟨hc4, rfl⟩
  have hg6l := hg6.lt
  replace hg3 := hg3.keep0 hc4
  replace hg4 := hg4.keep0 hc4
  replace hg6 := hg6.keep0 hc4
  have hc04 := hc03.trans' hc4
  have hz4 := hc4.size
  cases hB : editB x.e with
  | false =>
    have hno : applyM st x.e X first = none := by unfold applyM; rw [hB]; simp
    rw [if_neg (by simp)]
    refine neT rfl rfl rfl rfl (by omega) ?_
    refine go T 5 rfl ?_
    refine o1 rfl (op_load_agg T rfl rfl rfl rfl hg3 (by exact Nat.le_of_ble_eq_true rfl) (by exact rfl) ?_)
    refine op0 rfl rfl ?_
    refine op_store_agg T rfl rfl rfl rfl rfl rfl hg6 (by exact Nat.le_of_ble_eq_true rfl) (fun w5 hc5 hg6n _ => ?_)
    refine go T 5 rfl ?_
    refine post2c T (.inl rfl) rfl rfl rfl rfl rfl hg6n rfl ⟨hc04.trans hc5 (fun k hk hlt => by simp at hk; have := hc1.size; have := hc2.size; omega), fun _ => rfl, fun st' h => by rw [hno] at h; cases h⟩
  | true =>
  rw [if_pos rfl]
  obtain ⟨e, xa, xd, xp, xr, Q⟩ := x
  dsimp only at hI hXQ hB hr hg4 ⊢
  subst hXQ
  obtain ⟨ha, hd, hp, hpe, hpr, hdr⟩ := hr
  dsimp only at ha hd hp hpe hpr hdr
  have hX := par_reads_inv hp
  obtain ⟨Aa, ca, rfl, _, _⟩ := ha.form
  obtain ⟨Ad, cd, rfl, _, _⟩ := hd.form
  obtain ⟨Ap, cp, rfl, _, _⟩ := hX.form
  obtain ⟨Ar, cr, rfl, _, _⟩ := hdr.form
  have hlens : e.adds.length ≤ 60 ∧ X.length ≤ 60 := by
    have hpl : X.length = e.pars.length := by rw [← hpe]; simp
    have hB' := hB
    unfold editB at hB'
    simp only [Bool.and_eq_true, decide_eq_true_eq] at hB'
    omega
  have hg4 : Blk w4 g4 49 [.int .i64 e.next, .int .i64 e.seq, .slice Aa e.adds.length ca, .slice Ad e.dels.length cd, .slice Ap X.length cp, .slice Ar e.drops.length cr] := by simpa [edL] using hg4
  refine neF rfl rfl rfl rfl (by omega) ?_
  refine go T 7 rfl ?_
  refine o1 rfl ?_
  refine op_alloc T rfl rfl (fun g8 w5 hs5 hc5 hg8 => ?_)
  have hg8 : Blk w5 g8 143 [.bool false, .bool false, .bool false, .bool false, .bool false, .bool false] := hg8
  have hs5 : w4.heap.size ≤ g8 := hs5
  have hg8l := hg8.lt
  replace hg3 := hg3.keep0 hc5
  replace hg4 := hg4.keep0 hc5
  replace hg6 := hg6.keep0 hc5
  refine go T 4 rfl ?_
  refine o1 rfl (op_build T rfl rfl rfl rfl rfl rfl ?_)
  refine o1 rfl ?_
  refine op_alloc T rfl rfl (fun g9 w6 hs6 hc6 hg9 => ?_)
  have hg9 : Blk w6 g9 99 [.slice none 0 0, .slice none 0 0, .int .i64 0, .int .i64 0] := hg9
  have hs6 : w5.heap.size ≤ g9 := hs6
  replace hg3 := hg3.keep0 hc6
  replace hg4 := hg4.keep0 hc6
  replace hg6 := hg6.keep0 hc6
  replace hg8 := hg8.keep0 hc6
  have hg9l := hg9.lt
  refine op0 rfl rfl ?_
  refine op_store_agg T rfl rfl rfl rfl rfl rfl hg9 (by exact Nat.le_of_ble_eq_true rfl) (fun wb hc7 hg9n hsz7 => ?_)
  replace hg9 : Blk wb g9 99 [.slice none 0 0, .slice none 0 0, .int .i64 0, .int .i64 0] := hg9n
  clear hg9n
  replace hg3 := hg3.keep hc7 (by simp; omega)
  replace hg4 := hg4.keep hc7 (by simp; omega)
  replace hg6 := hg6.keep hc7 (by simp; omega)
  replace hg8 := hg8.keep hc7 (by simp; omega)
  have hc0 : Chg [] w wb := ((hc04.trans' hc5).trans' hc6).trans hc7 (fun k hk hlt => by simp at hk; have := hc04.size; omega)
  have hwg8 : w.heap.size ≤ g8 := by have := hc04.size; omega
  have hwg9 : w.heap.size ≤ g9 := by have := hc04.size; omega
  have h3 := hg3; have h4 := hg4
  have hcw : Chg [g8, g9] wb wb := Chg.refl _ _
  clear hc7 hc6 hc5 hc4 hc3 hc2 hc1 hc02 hc03 hc04
  refine go T 5 rfl ?_
  refine ldB T h3 rfl rfl rfl rfl rfl rfl ?_
  refine go T 1 rfl ?_
  refine ldB T h4 rfl rfl rfl rfl rfl rfl ?_
  refine o1 rfl ?_
  refine op_call rfl rfl rfl (takeU_has _ st.segs _ e.dels _ (hS.keepR (hc0.trans hcw (fun k hk hlt => by simp at hk; omega))) (SliceOf.kept Ri64.kept _ _ _ _ (hc0.trans hcw (fun k hk hlt => by simp at hk; omega)) hd) (by omega)) ?_
  rintro _ w5 ⟨u1, rfl, hcx, r1, r1f0⟩
  have r1f : ∀ g, (u1).ownBlock = some g → wb.heap.size ≤ g := fun g hg => by have := r1f0 g hg; have := hcw.size; omega
  clear r1f0
  replace hg8 := hg8.keep0 hcx
  replace hg9 := hg9.keep0 hcx
  replace hcw := hcw.trans' hcx
  replace h4 := h4.keep0 hcx
  replace h3 := h3.keep0 hcx
  clear hcx
  refine go T 4 rfl ?_
  refine op0 rfl rfl ?_
  refine op_store T rfl rfl rfl rfl rfl (own_one r1) hg9 (by simp) (fun wa5 hca hg9n _ => ?_)
  replace hg9 : Blk wa5 g9 99 [u1, .slice none 0 0, .int .i64 0, .int .i64 0] := hg9n
  clear hg9n
  replace hg8 := hg8.keep hca (by simp; omega)
  replace hcw := hcw.trans hca (fun k hk _ => by simp at hk; simp [hk])
  replace h4 := h4.keep hca (by simp; omega)
  replace h3 := h3.keep hca (by simp; omega)
  replace r1 := r1.keep hca (fun k hk hm => by have := r1f k hk; simp at hm; omega)
  clear hca
  refine o1 rfl ?_
  refine op_index_at T (i := 0) rfl rfl rfl rfl rfl rfl (by decide) ?_
  refine op0 rfl rfl ?_
  refine op_store T rfl rfl rfl rfl rfl rfl hg8 (by simp) (fun wb5 hcb hg8n _ => ?_)
  replace hg8 : Blk wb5 g8 143 [.bool (takeK numK e.dels st.segs).isSome, .bool false, .bool false, .bool false, .bool false, .bool false] := hg8n
  clear hg8n
  replace hg9 := hg9.keep hcb (by simp; omega)
  replace hcw := hcw.trans hcb (fun k hk _ => by simp at hk; simp [hk])
  replace h4 := h4.keep hcb (by simp; omega)
  replace h3 := h3.keep hcb (by simp; omega)
  replace r1 := r1.keep hcb (fun k hk hm => by have := r1f k hk; simp at hm; omega)
  clear hcb
  refine go T 5 rfl ?_
  refine ldB T hg9 rfl rfl rfl rfl rfl rfl ?_
  refine go T 1 rfl ?_
  refine ldB T h4 rfl rfl rfl rfl rfl rfl ?_
  refine o1 rfl ?_
  refine op_call rfl rfl rfl (putU_has _ _ _ e.adds _ r1 (fun wq hq => ha.keepR ((hc0.trans hcw (fun k hk hlt => by simp at hk; omega)).trans hq (fun k hk hlt => by have := r1f k (by simpa using hk); omega))) (by have := took_len (key := numK) (ns := e.dels) (L := st.segs); omega) (took_nodup hns)) ?_
  rintro _ w6 ⟨u2, rfl, hcx, r2, r2f0⟩
  have r2f : ∀ g, (u2).ownBlock = some g → wb.heap.size ≤ g := fun g hg => by
    rcases r2f0 g hg with h | h
    · exact r1f g (by simpa using h)
    · have := hcw.size; omega
  clear r2f0
  have hin : ∀ k, k < wb.heap.size → k ∉ (u1).ownBlock.toList := fun k hk hm => by have := r1f k (by simpa using hm); omega
  replace hg8 := hg8.keep hcx (hin _ (by omega))
  replace hg9 := hg9.keep hcx (hin _ (by omega))
  replace h4 := h4.keep hcx (hin _ (by omega))
  replace h3 := h3.keep hcx (hin _ (by omega))
  replace hcw := hcw.trans hcx (fun k hk hlt => absurd hk (hin k hlt))
  clear hcx hin r1
  refine go T 4 rfl ?_
  refine op0 rfl rfl ?_
  refine op_store T rfl rfl rfl rfl rfl (own_one r2) hg9 (by simp) (fun wa6 hca hg9n _ => ?_)
  replace hg9 : Blk wa6 g9 99 [u2, .slice none 0 0, .int .i64 0, .int .i64 0] := hg9n
  clear hg9n
  replace hg8 := hg8.keep hca (by simp; omega)
  replace hcw := hcw.trans hca (fun k hk _ => by simp at hk; simp [hk])
  replace h4 := h4.keep hca (by simp; omega)
  replace h3 := h3.keep hca (by simp; omega)
  replace r2 := r2.keep hca (fun k hk hm => by have := r2f k hk; simp at hm; omega)
  clear hca
  refine o1 rfl ?_
  refine op_index_at T (i := 1) rfl rfl rfl rfl rfl rfl (by decide) ?_
  refine op0 rfl rfl ?_
  refine op_store T rfl rfl rfl rfl rfl rfl hg8 (by simp) (fun wb6 hcb hg8n _ => ?_)
  replace hg8 : Blk wb6 g8 143 [.bool (takeK numK e.dels st.segs).isSome, .bool (putK numK e.adds (tookK numK e.dels st.segs)).isSome, .bool false, .bool false, .bool false, .bool false] := hg8n
  clear hg8n
  replace hg9 := hg9.keep hcb (by simp; omega)
  replace hcw := hcw.trans hcb (fun k hk _ => by simp at hk; simp [hk])
  replace h4 := h4.keep hcb (by simp; omega)
  replace h3 := h3.keep hcb (by simp; omega)
  replace r2 := r2.keep hcb (fun k hk hm => by have := r2f k hk; simp at hm; omega)
  clear hcb
  refine go T 5 rfl ?_
  refine ldB T h3 rfl rfl rfl rfl rfl rfl ?_
  refine go T 1 rfl ?_
  refine ldB T h4 rfl rfl rfl rfl rfl rfl ?_
  refine o1 rfl ?_
  refine op_call rfl rfl rfl (takePU_has _ st.pars _ e.drops _ (hQ.keepR (hc0.trans hcw (fun k hk hlt => by simp at hk; omega))) (SliceOf.kept Ri64.kept _ _ _ _ (hc0.trans hcw (fun k hk hlt => by simp at hk; omega)) hdr) (by omega)) ?_
  rintro _ w7 ⟨u3, rfl, hcx, r3, r3f0⟩
  have r3f : ∀ g, (u3).ownBlock = some g → wb.heap.size ≤ g := fun g hg => by have := r3f0 g hg; have := hcw.size; omega
  clear r3f0
  replace hg8 := hg8.keep0 hcx
  replace hg9 := hg9.keep0 hcx
  replace hcw := hcw.trans' hcx
  replace h4 := h4.keep0 hcx
  replace h3 := h3.keep0 hcx
  replace r2 := r2.keep0 hcx
  clear hcx
  refine go T 4 rfl ?_
  refine op0 rfl rfl ?_
  refine op_store T rfl rfl rfl rfl rfl (own_one r3) hg9 (by simp) (fun wa7 hca hg9n _ => ?_)
  replace hg9 : Blk wa7 g9 99 [u2, u3, .int .i64 0, .int .i64 0] := hg9n
  clear hg9n
  replace hg8 := hg8.keep hca (by simp; omega)
  replace hcw := hcw.trans hca (fun k hk _ => by simp at hk; simp [hk])
  replace h4 := h4.keep hca (by simp; omega)
  replace h3 := h3.keep hca (by simp; omega)
  replace r2 := r2.keep hca (fun k hk hm => by have := r2f k hk; simp at hm; omega)
  replace r3 := r3.keep hca (fun k hk hm => by have := r3f k hk; simp at hm; omega)
  clear hca
  refine o1 rfl ?_
  refine op_index_at T (i := 2) rfl rfl rfl rfl rfl rfl (by decide) ?_
  refine op0 rfl rfl ?_
  refine op_store T rfl rfl rfl rfl rfl rfl hg8 (by simp) (fun wb7 hcb hg8n _ => ?_)
  replace hg8 : Blk wb7 g8 143 [.bool (takeK numK e.dels st.segs).isSome, .bool (putK numK e.adds (tookK numK e.dels st.segs)).isSome, .bool (takeK parKey e.drops st.pars).isSome, .bool false, .bool false, .bool false] := hg8n
  clear hg8n
  replace hg9 := hg9.keep hcb (by simp; omega)
  replace hcw := hcw.trans hcb (fun k hk _ => by simp at hk; simp [hk])
  replace h4 := h4.keep hcb (by simp; omega)
  replace h3 := h3.keep hcb (by simp; omega)
  replace r2 := r2.keep hcb (fun k hk hm => by have := r2f k hk; simp at hm; omega)
  replace r3 := r3.keep hcb (fun k hk hm => by have := r3f k hk; simp at hm; omega)
  clear hcb
  refine go T 5 rfl ?_
  refine ldB T hg9 rfl rfl rfl rfl rfl rfl ?_
  refine go T 1 rfl ?_
  refine ldB T h4 rfl rfl rfl rfl rfl rfl ?_
  refine o1 rfl ?_
  refine op_call rfl rfl rfl (putPU_has _ _ _ X _ r3 (fun wq hq => hX.keepR ((hc0.trans hcw (fun k hk hlt => by simp at hk; omega)).trans hq (fun k hk hlt => by have := r3f k (by simpa using hk); omega))) (by have := took_len (key := parKey) (ns := e.drops) (L := st.pars); omega) (took_nodup hnq)) ?_
  rintro _ w8 ⟨u4, rfl, hcx, r4, r4f0⟩
  have r4f : ∀ g, (u4).ownBlock = some g → wb.heap.size ≤ g := fun g hg => by
    rcases r4f0 g hg with h | h
    · exact r3f g (by simpa using h)
    · have := hcw.size; omega
  clear r4f0
  have hin : ∀ k, k < wb.heap.size → k ∉ (u3).ownBlock.toList := fun k hk hm => by have := r3f k (by simpa using hm); omega
  replace hg8 := hg8.keep hcx (hin _ (by omega))
  replace hg9 := hg9.keep hcx (hin _ (by omega))
  replace h4 := h4.keep hcx (hin _ (by omega))
  replace h3 := h3.keep hcx (hin _ (by omega))
  replace hcw := hcw.trans hcx (fun k hk hlt => absurd hk (hin k hlt))
  replace r2 := r2.keep hcx (fun k hk hm => by
    obtain ⟨c1, hr1⟩ := r2.row hk
    obtain ⟨c2, hr2⟩ := r3.row (show (u3).ownBlock = some k by simpa using hm)
    exact hr1.ne_ hr2 (by decide) rfl)
  clear hcx hin r3
  refine go T 4 rfl ?_
  refine op0 rfl rfl ?_
  refine op_store T rfl rfl rfl rfl rfl (own_one r4) hg9 (by simp) (fun wa8 hca hg9n _ => ?_)
  replace hg9 : Blk wa8 g9 99 [u2, u4, .int .i64 0, .int .i64 0] := hg9n
  clear hg9n
  replace hg8 := hg8.keep hca (by simp; omega)
  replace hcw := hcw.trans hca (fun k hk _ => by simp at hk; simp [hk])
  replace h4 := h4.keep hca (by simp; omega)
  replace h3 := h3.keep hca (by simp; omega)
  replace r2 := r2.keep hca (fun k hk hm => by have := r2f k hk; simp at hm; omega)
  replace r4 := r4.keep hca (fun k hk hm => by have := r4f k hk; simp at hm; omega)
  clear hca
  refine o1 rfl ?_
  refine op_index_at T (i := 3) rfl rfl rfl rfl rfl rfl (by decide) ?_
  refine op0 rfl rfl ?_
  refine op_store T rfl rfl rfl rfl rfl rfl hg8 (by simp) (fun wb8 hcb hg8n _ => ?_)
  replace hg8 : Blk wb8 g8 143 [.bool (takeK numK e.dels st.segs).isSome, .bool (putK numK e.adds (tookK numK e.dels st.segs)).isSome, .bool (takeK parKey e.drops st.pars).isSome, .bool (putK parKey X (tookK parKey e.drops st.pars)).isSome, .bool false, .bool false] := hg8n
  clear hg8n
  replace hg9 := hg9.keep hcb (by simp; omega)
  replace hcw := hcw.trans hcb (fun k hk _ => by simp at hk; simp [hk])
  replace h4 := h4.keep hcb (by simp; omega)
  replace h3 := h3.keep hcb (by simp; omega)
  replace r2 := r2.keep hcb (fun k hk hm => by have := r2f k hk; simp at hm; omega)
  replace r4 := r4.keep hcb (fun k hk hm => by have := r4f k hk; simp at hm; omega)
  clear hcb
  refine go T 5 rfl ?_
  refine ldB T h3 rfl rfl rfl rfl rfl rfl ?_
  refine go T 1 rfl ?_
  refine ldB T h4 rfl rfl rfl rfl rfl rfl ?_
  refine o1 rfl ?_
  refine op_call rfl rfl rfl (later_has st.next e.next _) ?_
  rintro _ _ ⟨rfl, rfl⟩
  refine go T 4 rfl ?_
  refine op0 rfl rfl ?_
  refine op_store T rfl rfl rfl rfl rfl rfl hg9 (by simp) (fun wa9 hca hg9n _ => ?_)
  replace hg9 : Blk wa9 g9 99 [u2, u4, .int .i64 (laterM st.next e.next).1, .int .i64 0] := hg9n
  clear hg9n
  replace hg8 := hg8.keep hca (by simp; omega)
  replace hcw := hcw.trans hca (fun k hk _ => by simp at hk; simp [hk])
  replace h4 := h4.keep hca (by simp; omega)
  replace h3 := h3.keep hca (by simp; omega)
  replace r2 := r2.keep hca (fun k hk hm => by have := r2f k hk; simp at hm; omega)
  replace r4 := r4.keep hca (fun k hk hm => by have := r4f k hk; simp at hm; omega)
  clear hca
  refine o1 rfl ?_
  refine op_index_at T (i := 4) rfl rfl rfl rfl rfl rfl (by decide) ?_
  refine op0 rfl rfl ?_
  refine op_store T rfl rfl rfl rfl rfl rfl hg8 (by simp) (fun wb9 hcb hg8n _ => ?_)
  replace hg8 : Blk wb9 g8 143 [.bool (takeK numK e.dels st.segs).isSome, .bool (putK numK e.adds (tookK numK e.dels st.segs)).isSome, .bool (takeK parKey e.drops st.pars).isSome, .bool (putK parKey X (tookK parKey e.drops st.pars)).isSome, .bool (laterM st.next e.next).2, .bool false] := hg8n
  clear hg8n
  replace hg9 := hg9.keep hcb (by simp; omega)
  replace hcw := hcw.trans hcb (fun k hk _ => by simp at hk; simp [hk])
  replace h4 := h4.keep hcb (by simp; omega)
  replace h3 := h3.keep hcb (by simp; omega)
  replace r2 := r2.keep hcb (fun k hk hm => by have := r2f k hk; simp at hm; omega)
  replace r4 := r4.keep hcb (fun k hk hm => by have := r4f k hk; simp at hm; omega)
  clear hcb
  refine go T 5 rfl ?_
  refine ldB T h3 rfl rfl rfl rfl rfl rfl ?_
  refine go T 1 rfl ?_
  refine ldB T h4 rfl rfl rfl rfl rfl rfl ?_
  refine o1 rfl ?_
  refine op_call rfl rfl rfl (later_has st.seq e.seq _) ?_
  rintro _ _ ⟨rfl, rfl⟩
  refine go T 4 rfl ?_
  refine op0 rfl rfl ?_
  refine op_store T rfl rfl rfl rfl rfl rfl hg9 (by simp) (fun wa10 hca hg9n _ => ?_)
  replace hg9 : Blk wa10 g9 99 [u2, u4, .int .i64 (laterM st.next e.next).1, .int .i64 (laterM st.seq e.seq).1] := hg9n
  clear hg9n
  replace hg8 := hg8.keep hca (by simp; omega)
  replace hcw := hcw.trans hca (fun k hk _ => by simp at hk; simp [hk])
  replace h4 := h4.keep hca (by simp; omega)
  replace h3 := h3.keep hca (by simp; omega)
  replace r2 := r2.keep hca (fun k hk hm => by have := r2f k hk; simp at hm; omega)
  replace r4 := r4.keep hca (fun k hk hm => by have := r4f k hk; simp at hm; omega)
  clear hca
  refine o1 rfl ?_
  refine op_index_at T (i := 5) rfl rfl rfl rfl rfl rfl (by decide) ?_
  refine op0 rfl rfl ?_
  refine op_store T rfl rfl rfl rfl rfl rfl hg8 (by simp) (fun wb10 hcb hg8n _ => ?_)
  replace hg8 : Blk wb10 g8 143 [.bool (takeK numK e.dels st.segs).isSome, .bool (putK numK e.adds (tookK numK e.dels st.segs)).isSome, .bool (takeK parKey e.drops st.pars).isSome, .bool (putK parKey X (tookK parKey e.drops st.pars)).isSome, .bool (laterM st.next e.next).2, .bool (laterM st.seq e.seq).2] := hg8n
  clear hg8n
  replace hg9 := hg9.keep hcb (by simp; omega)
  replace hcw := hcw.trans hcb (fun k hk _ => by simp at hk; simp [hk])
  replace h4 := h4.keep hcb (by simp; omega)
  replace h3 := h3.keep hcb (by simp; omega)
  replace r2 := r2.keep hcb (fun k hk hm => by have := r2f k hk; simp at hm; omega)
  replace r4 := r4.keep hcb (fun k hk hm => by have := r4f k hk; simp at hm; omega)
  clear hcb
  have h6 := hg6.keep hcw (by simp; omega)
  have hend : ∀ {wz : World}, Chg [g6] wb10 wz → Chg [] w wz := fun hz => (hc0.trans hcw (fun k hk hlt => by simp at hk; omega)).trans hz (fun k hk hlt => by simp at hk; omega)
  have hkey : applyM st e X first = if (editB e && ((takeK numK e.dels st.segs).isSome && ((putK numK e.adds (tookK numK e.dels st.segs)).isSome && ((takeK parKey e.drops st.pars).isSome && ((putK parKey X (tookK parKey e.drops st.pars)).isSome && ((laterM st.next e.next).2 && ((laterM st.seq e.seq).2 && fineM (putsK numK e.adds (tookK numK e.dels st.segs)) ((putsK parKey X (tookK parKey e.drops st.pars)).map (·.1)) (laterM st.next e.next).1 (if first then [] else X.map (·.1))))))))) = true then some ⟨putsK numK e.adds (tookK numK e.dels st.segs), putsK parKey X (tookK parKey e.drops st.pars), (laterM st.next e.next).1, (laterM st.seq e.seq).1⟩ else none := rfl
  rw [hB, Bool.true_and] at hkey
  have hrd : SliceK 5 (RdL parL) wb10 (.slice Ap X.length cp) (X.map (·.1)) := hp.keepR (hc0.trans hcw (fun k hk hlt => by simp at hk; omega))
  have hpr' : ∀ q ∈ X.map (·.1), PRd wb10 q := fun q hq => (hpr q hq).keep0 (hc0.trans hcw (fun k hk hlt => by simp at hk; omega))
  generalize (takeK numK e.dels st.segs).isSome = b0 at *
  generalize (putK numK e.adds (tookK numK e.dels st.segs)).isSome = b1 at *
  generalize (takeK parKey e.drops st.pars).isSome = b2 at *
  generalize (putK parKey X (tookK parKey e.drops st.pars)).isSome = b3 at *
  generalize putsK numK e.adds (tookK numK e.dels st.segs) = S2 at *
  generalize putsK parKey X (tookK parKey e.drops st.pars) = Q2 at *
  generalize laterM st.next e.next = ln at *
  generalize laterM st.seq e.seq = ls at *
  obtain ⟨n2, b4⟩ := ln
  obtain ⟨s2, b5⟩ := ls
  dsimp only at hg8 hg9 hkey ⊢
  have hsb : SliceOf Rbool wb10 (.slice (some ⟨g8, 0, none⟩) 6 6) [b0, b1, b2, b3, b4, b5] := SliceOf.of_blk hg8 rfl (Nat.le_refl _) (by decide) (fun i y hy => by
    match i, hy with
    | 0, hy => cases hy; exact ⟨_, rfl, rfl⟩
    | 1, hy => cases hy; exact ⟨_, rfl, rfl⟩
    | 2, hy => cases hy; exact ⟨_, rfl, rfl⟩
    | 3, hy => cases hy; exact ⟨_, rfl, rfl⟩
    | 4, hy => cases hy; exact ⟨_, rfl, rfl⟩
    | 5, hy => cases hy; exact ⟨_, rfl, rfl⟩)
  have hone : ∀ q ∈ X.map (·.1), q.vn.oneCell' = true ∧ q.vs.oneCell' = true := fun q hq => by
    obtain ⟨y, _, rfl⟩ := List.mem_map.1 hq
    exact y.2
  have hnil : SliceK 5 (RdL parL) wb10 (.slice none 0 0) [] := by
    unfold SliceK
    exact ⟨none, 0, rfl, Nat.le_refl _, Nat.zero_le _, fun i x h => by simp at h⟩
  obtain ⟨A2, c2, rfl, _, _⟩ := r2.form
  obtain ⟨A4, c4, rfl, _, _⟩ := r4.form
  have hrS := r2.readsK segL_len
  have hrQ := par_reads (r4.readsK parS_len)
  cases first with
  | false =>
    refine go T 5 rfl ?_
    refine ldB T h4 rfl rfl rfl rfl rfl rfl ?_
    refine go T 15 rfl ?_
    refine o1 rfl ?_
    refine op_slice_arr T rfl rfl rfl rfl (by decide) ?_
    refine o1 rfl ?_
    refine op_call rfl rfl rfl (hasB_has _ _ _ [b0, b1, b2, b3, b4, b5] false _ hsb) ?_
    rintro _ wb10 ⟨rfl, rfl⟩
    cases hany : ([b0, b1, b2, b3, b4, b5].any fun x => false == x) with
    | true =>
      have hno : applyM st e X false = none := by
        rw [hkey]
        refine if_neg (fun h => ?_)
        simp only [Bool.and_eq_true] at h
        obtain ⟨rfl, rfl, rfl, rfl, rfl, rfl, _⟩ := h
        simp at hany
      refine go T 11 rfl ?_
      refine o1 rfl (op_load_agg T rfl rfl rfl rfl h3 (by exact Nat.le_of_ble_eq_true rfl) (by exact rfl) ?_)
      refine op0 rfl rfl ?_
      refine op_store_agg T rfl rfl rfl rfl rfl rfl h6 (by exact Nat.le_of_ble_eq_true rfl) (fun wz hcz hz _ => ?_)
      refine go T 5 rfl ?_
      exact post2c T (.inl rfl) rfl rfl rfl rfl rfl hz rfl ⟨hend hcz, fun _ => rfl, fun st' h => by rw [hno] at h; cases h⟩
    | false =>
      have hyes : b0 = true ∧ b1 = true ∧ b2 = true ∧ b3 = true ∧ b4 = true ∧ b5 = true := by
        revert hany
        cases b0 <;> cases b1 <;> cases b2 <;> cases b3 <;> cases b4 <;> cases b5 <;> simp
      obtain ⟨rfl, rfl, rfl, rfl, rfl, rfl⟩ := hyes
      simp only [Bool.true_and] at hkey
      refine go T 1 rfl ?_
      refine o1 rfl (op_load_agg T rfl rfl rfl rfl hg9 (by exact Nat.le_of_ble_eq_true rfl) (by exact rfl) ?_)
      refine go T 1 rfl ?_
      refine o1 rfl ?_
      refine op_call rfl rfl rfl (fine_has _ _ n2 s2 _ _ _ S2 (Q2.map (·.1)) (X.map (·.1)) _ hrS hrQ hrd hpr' hone) ?_
      rintro _ wc ⟨hcf, rfl⟩
      replace h6 := h6.keep0 hcf
      replace h3 := h3.keep0 hcf
      replace hg9 := hg9.keep0 hcf
      replace r2 := r2.keep0 hcf
      replace r4 := r4.keep0 hcf
      have hendc : ∀ {wz : World}, Chg [g6] wc wz → Chg [] w wz := fun hz => hend ((hcf.mono (fun k hk _ => by cases hk)).trans hz (fun k hk _ => hk))
      cases hfine : fineM S2 (Q2.map (·.1)) n2 (X.map (·.1)) with
      | false =>
        have hno : applyM st e X false = none := by rw [hkey]; simp; exact hfine
        refine go T 7 rfl ?_
        refine o1 rfl (op_load_agg T rfl rfl rfl rfl h3 (by exact Nat.le_of_ble_eq_true rfl) (by exact rfl) ?_)
        refine op0 rfl rfl ?_
        refine op_store_agg T rfl rfl rfl rfl rfl rfl h6 (by exact Nat.le_of_ble_eq_true rfl) (fun wz hcz hz _ => ?_)
        refine go T 5 rfl ?_
        exact post2c T (.inl rfl) rfl rfl rfl rfl rfl hz rfl ⟨hendc hcz, fun _ => rfl, fun st' h => by rw [hno] at h; cases h⟩
      | true =>
        have hyes : applyM st e X false = some ⟨S2, Q2, n2, s2⟩ := by rw [hkey]; simp; exact hfine
        refine go T 9 rfl ?_
        refine o1 rfl (op_load_agg T rfl rfl rfl rfl hg9 (by exact Nat.le_of_ble_eq_true rfl) (by exact rfl) ?_)
        refine op0 rfl rfl ?_
        refine op_store_agg T rfl rfl rfl rfl rfl rfl h6 (by exact Nat.le_of_ble_eq_true rfl) (fun wz hcz hz _ => ?_)
        refine go T 4 rfl ?_
        replace hz : Blk wz g6 99 [.slice A2 S2.length c2, .slice A4 Q2.length c4, .int .i64 n2, .int .i64 s2] := hz
        refine post2c T (.inl rfl) rfl rfl rfl rfl rfl hz rfl ⟨hendc hcz, ?_, ?_⟩
        · intro h; rw [hyes] at h; cases h
        intro st' h
        rw [hyes] at h
        injection h with h
        subst h
        exact ⟨_, _, rfl, r2.keep hcz (fun k hk hm => by have := r2f k hk; simp at hm; omega), r4.keep hcz (fun k hk hm => by have := r4f k hk; simp at hm; omega), fun g hg => by have := r2f g hg; have := hc0.size; omega, fun g hg => by have := r4f g hg; have := hc0.size; omega⟩
  | true =>
    refine go T 5 rfl ?_
    refine ldB T h4 rfl rfl rfl rfl rfl rfl ?_
    refine go T 17 rfl ?_
    refine o1 rfl ?_
    refine op_slice_arr T rfl rfl rfl rfl (by decide) ?_
    refine o1 rfl ?_
    refine op_call rfl rfl rfl (hasB_has _ _ _ [b0, b1, b2, b3, b4, b5] false _ hsb) ?_
    rintro _ wb10 ⟨rfl, rfl⟩
    cases hany : ([b0, b1, b2, b3, b4, b5].any fun x => false == x) with
    | true =>
      have hno : applyM st e X true = none := by
        rw [hkey]
        refine if_neg (fun h => ?_)
        simp only [Bool.and_eq_true] at h
        obtain ⟨rfl, rfl, rfl, rfl, rfl, rfl, _⟩ := h
        simp at hany
      refine go T 11 rfl ?_
      refine o1 rfl (op_load_agg T rfl rfl rfl rfl h3 (by exact Nat.le_of_ble_eq_true rfl) (by exact rfl) ?_)
      refine op0 rfl rfl ?_
      refine op_store_agg T rfl rfl rfl rfl rfl rfl h6 (by exact Nat.le_of_ble_eq_true rfl) (fun wz hcz hz _ => ?_)
      refine go T 5 rfl ?_
      exact post2c T (.inl rfl) rfl rfl rfl rfl rfl hz rfl ⟨hend hcz, fun _ => rfl, fun st' h => by rw [hno] at h; cases h⟩
    | false =>
      have hyes : b0 = true ∧ b1 = true ∧ b2 = true ∧ b3 = true ∧ b4 = true ∧ b5 = true := by
        revert hany
        cases b0 <;> cases b1 <;> cases b2 <;> cases b3 <;> cases b4 <;> cases b5 <;> simp
      obtain ⟨rfl, rfl, rfl, rfl, rfl, rfl⟩ := hyes
      simp only [Bool.true_and] at hkey
      refine go T 1 rfl ?_
      refine o1 rfl (op_load_agg T rfl rfl rfl rfl hg9 (by exact Nat.le_of_ble_eq_true rfl) (by exact rfl) ?_)
      refine go T 1 rfl ?_
      refine o1 rfl ?_
      refine op_call rfl rfl rfl (fine_has _ _ n2 s2 _ _ _ S2 (Q2.map (·.1)) [] _ hrS hrQ hnil (fun q hq => by cases hq) (fun q hq => by cases hq)) ?_
      rintro _ wc ⟨hcf, rfl⟩
      replace h6 := h6.keep0 hcf
      replace h3 := h3.keep0 hcf
      replace hg9 := hg9.keep0 hcf
      replace r2 := r2.keep0 hcf
      replace r4 := r4.keep0 hcf
      have hendc : ∀ {wz : World}, Chg [g6] wc wz → Chg [] w wz := fun hz => hend ((hcf.mono (fun k hk _ => by cases hk)).trans hz (fun k hk _ => hk))
      cases hfine : fineM S2 (Q2.map (·.1)) n2 [] with
      | false =>
        have hno : applyM st e X true = none := by rw [hkey]; simp; exact hfine
        refine go T 7 rfl ?_
        refine o1 rfl (op_load_agg T rfl rfl rfl rfl h3 (by exact Nat.le_of_ble_eq_true rfl) (by exact rfl) ?_)
        refine op0 rfl rfl ?_
        refine op_store_agg T rfl rfl rfl rfl rfl rfl h6 (by exact Nat.le_of_ble_eq_true rfl) (fun wz hcz hz _ => ?_)
        refine go T 5 rfl ?_
        exact post2c T (.inl rfl) rfl rfl rfl rfl rfl hz rfl ⟨hendc hcz, fun _ => rfl, fun st' h => by rw [hno] at h; cases h⟩
      | true =>
        have hyes : applyM st e X true = some ⟨S2, Q2, n2, s2⟩ := by rw [hkey]; simp; exact hfine
        refine go T 9 rfl ?_
        refine o1 rfl (op_load_agg T rfl rfl rfl rfl hg9 (by exact Nat.le_of_ble_eq_true rfl) (by exact rfl) ?_)
        refine op0 rfl rfl ?_
        refine op_store_agg T rfl rfl rfl rfl rfl rfl h6 (by exact Nat.le_of_ble_eq_true rfl) (fun wz hcz hz _ => ?_)
        refine go T 4 rfl ?_
        replace hz : Blk wz g6 99 [.slice A2 S2.length c2, .slice A4 Q2.length c4, .int .i64 n2, .int .i64 s2] := hz
        refine post2c T (.inl rfl) rfl rfl rfl rfl rfl hz rfl ⟨hendc hcz, ?_, ?_⟩
        · intro h; rw [hyes] at h; cases h
        intro st' h
        rw [hyes] at h
        injection h with h
        subst h
        exact ⟨_, _, rfl, r2.keep hcz (fun k hk hm => by have := r2f k hk; simp at hm; omega), r4.keep hcz (fun k hk hm => by have := r4f k hk; simp at hm; omega), fun g hg => by have := r2f g hg; have := hc0.size; omega, fun g hg => by have := r4f g hg; have := hc0.size; omega⟩
end Go.Proofs.YtiadjkjlifnopaaGreatDoor.Tryz
/-! Manifests: whole; Segs, Next, Seq; of no manifest. -/
set_option linter.unusedVariables false
namespace Go.Proofs.YtiadjkjlifnopaaGreatDoor.Tryz
open Go Go.Vc
/-- A manifest in memory: its cells. -/
def ManB (w : World) (gm g : Nat) (vs vp : Value) (nx sq : Int) (cl : Bool) : Prop := Blk w gm 101 [.pointer (some ⟨g, 0, none⟩), vs, vp, .int .i64 nx, .int .i64 sq, .bool cl]
theorem whole_has (A : Option Addr) (n c : Nat) (B : Option Addr) (m d : Nat) (nx sq : Int) (w : World) :
    Has Go.Proofs.Tryz.prog 94 #[.agg #[.slice A n c, .slice B m d, .int .i64 nx, .int .i64 sq]] w (fun v w' => Chg [] w w' ∧ v = .agg #[.int .i64 nx, .int .i64 sq, .slice A n c, .slice none 0 0, .slice B m d, .slice none 0 0]) := by
  refine enter Go.Proofs.Tryz.func94 rfl rfl (by decide) rfl (e := [(0, .agg #[.slice A n c, .slice B m d, .int .i64 nx, .int .i64 sq])]) ⟨rfl, trivial⟩ ?_
  refine run ?_
  refine go T 2 rfl ?_
  refine o1 rfl ?_
  refine op_box rfl rfl (fun g1 w1 hs1 hc1 hg1 => ?_)
  have hg1 : Blk w1 g1 99 [.slice A n c, .slice B m d, .int .i64 nx, .int .i64 sq] := hg1
  refine o1 rfl ?_
  refine op_alloc T rfl rfl (fun g2 w2 hs2 hc2 hg2 => ?_)
  have hg2 : Blk w2 g2 49 [.int .i64 0, .int .i64 0, .slice none 0 0, .slice none 0 0, .slice none 0 0, .slice none 0 0] := hg2
  have hs2 : w1.heap.size ≤ g2 := hs2
  have hg12 := hg1.keep0 hc2
  refine go T 5 rfl ?_
  refine ldB T hg12 rfl rfl rfl rfl rfl rfl ?_
  refine go T 1 rfl ?_
  refine ldB T hg12 rfl rfl rfl rfl rfl rfl ?_
  refine go T 1 rfl ?_
  refine ldB T hg12 rfl rfl rfl rfl rfl rfl ?_
  refine go T 1 rfl ?_
  refine ldB T hg12 rfl rfl rfl rfl rfl rfl ?_
  refine o1 rfl (op_build T rfl rfl rfl rfl rfl rfl ?_)
  refine op0 rfl rfl ?_
  refine op_store_agg T rfl rfl rfl rfl rfl rfl hg2 (by exact Nat.le_of_ble_eq_true rfl) (fun w3 hc3 hg3 _ => ?_)
  have hz := hc1.size
  refine go T 3 rfl ?_
  exact post1c T (.inl rfl) rfl rfl rfl rfl hg3 rfl ⟨(hc1.trans' hc2).trans hc3 (fun k hk hlt => by simp at hk; omega), rfl⟩
section
variable {w : World} {gm g : Nat} {vs vp : Value} {nx sq : Int} {cl : Bool}
theorem nextM_has (x : ManB w gm g vs vp nx sq cl) : Has Go.Proofs.Tryz.prog 28 #[.pointer (some ⟨gm, 0, none⟩)] w (fun v w' => w' = w ∧ v = .int .i64 nx) := by
  refine enter Go.Proofs.Tryz.func28 rfl rfl (by decide) rfl (e := [(0, .pointer (some ⟨gm, 0, none⟩))]) ⟨rfl, trivial⟩ ?_
  unfold ManB at x
  refine run ?_
  refine go T 21 rfl ?_
  refine ldB T x rfl rfl rfl rfl rfl rfl ?_
  refine go T 4 rfl ?_
  exact post1 (.inl rfl) rfl rfl ⟨rfl, rfl⟩
theorem seqM_has (x : ManB w gm g vs vp nx sq cl) : Has Go.Proofs.Tryz.prog 31 #[.pointer (some ⟨gm, 0, none⟩)] w (fun v w' => w' = w ∧ v = .int .i64 sq) := by
  refine enter Go.Proofs.Tryz.func31 rfl rfl (by decide) rfl (e := [(0, .pointer (some ⟨gm, 0, none⟩))]) ⟨rfl, trivial⟩ ?_
  unfold ManB at x
  refine run ?_
  refine go T 21 rfl ?_
  refine ldB T x rfl rfl rfl rfl rfl rfl ?_
  refine go T 4 rfl ?_
  exact post1 (.inl rfl) rfl rfl ⟨rfl, rfl⟩
theorem segsM_has (x : ManB w gm g vs vp nx sq cl) (L : List SegM) (hl : SliceK 6 (RdL segL) w vs L) (hb : L.length ≤ 1000000) : Has Go.Proofs.Tryz.prog 27 #[.pointer (some ⟨gm, 0, none⟩)] w (fun v w' => Chg [] w w' ∧ Own w' 26 6 v L.length (L.flatMap segL) ∧ ∀ g, v.ownBlock = some g → w.heap.size ≤ g) := by
  refine enter Go.Proofs.Tryz.func27 rfl rfl (by decide) rfl (e := [(0, .pointer (some ⟨gm, 0, none⟩))]) ⟨rfl, trivial⟩ ?_
  unfold ManB at x
  obtain ⟨A, c, rfl, _, _⟩ := hl.form
  refine run ?_
  refine go T 21 rfl ?_
  refine ldB T x rfl rfl rfl rfl rfl rfl ?_
  refine o1 rfl ?_
  refine op_call rfl rfl rfl (cloneSeg_has A _ c L w hl hb) ?_
  rintro v1 w1 h1
  refine go T 4 rfl ?_
  exact post1 (.inl rfl) rfl rfl h1
end
theorem nextNil_has (w : World) : Has Go.Proofs.Tryz.prog 28 #[.pointer none] w (fun v w' => w' = w ∧ v = .int .i64 0) := by
  refine enter Go.Proofs.Tryz.func28 rfl rfl (by decide) rfl (e := [(0, .pointer none)]) ⟨rfl, trivial⟩ ?_
  refine run ?_
  refine go T 20 rfl ?_
  exact post1 (.inl rfl) rfl rfl ⟨rfl, rfl⟩
theorem seqNil_has (w : World) : Has Go.Proofs.Tryz.prog 31 #[.pointer none] w (fun v w' => w' = w ∧ v = .int .i64 0) := by
  refine enter Go.Proofs.Tryz.func31 rfl rfl (by decide) rfl (e := [(0, .pointer none)]) ⟨rfl, trivial⟩ ?_
  refine run ?_
  refine go T 20 rfl ?_
  exact post1 (.inl rfl) rfl rfl ⟨rfl, rfl⟩
theorem segsNil_has (w : World) : Has Go.Proofs.Tryz.prog 27 #[.pointer none] w (fun v w' => w' = w ∧ v = .slice none 0 0) := by
  refine enter Go.Proofs.Tryz.func27 rfl rfl (by decide) rfl (e := [(0, .pointer none)]) ⟨rfl, trivial⟩ ?_
  refine run ?_
  refine go T 20 rfl ?_
  exact post1 (.inl rfl) rfl rfl ⟨rfl, rfl⟩
theorem parsNil_has (w : World) : Has Go.Proofs.Tryz.prog 30 #[.pointer none] w (fun v w' => w' = w ∧ v = .slice none 0 0) := by
  refine enter Go.Proofs.Tryz.func30 rfl rfl (by decide) rfl (e := [(0, .pointer none)]) ⟨rfl, trivial⟩ ?_
  refine run ?_
  refine go T 20 rfl ?_
  exact post1 (.inl rfl) rfl rfl ⟨rfl, rfl⟩
end Go.Proofs.YtiadjkjlifnopaaGreatDoor.Tryz
/-! raw.Write: five steps, one after the other, until one fails. -/
set_option linter.unusedVariables false
namespace Go.Vc
open Go
def writeK (s : FsM) (nm beside : Nm) (b : List UInt8) : Nat → FsM × Int
  | 0 => createM s beside
  | 1 => appendM s beside b
  | 2 => syncM s beside
  | 3 => renameM s beside nm
  | _ => syncDirM s
/-- The steps from k on. -/
def writeG (nm beside : Nm) (b : List UInt8) : Nat → Nat → FsM → FsM × Int
  | 0, _, s => (s, 0)
  | n + 1, k, s => if (writeK s nm beside b k).2 ≠ 0 then writeK s nm beside b k else writeG nm beside b n (k + 1) (writeK s nm beside b k).1
theorem writeK_calls (s : FsM) (nm beside : Nm) (b : List UInt8) (k : Nat) : (writeK s nm beside b k).1.calls = s.calls + 1 := by
  unfold writeK
  split
  · unfold createM; dsimp only; split; · rfl
    split; · rfl
    split <;> rfl
  · unfold appendM; dsimp only; split; · rfl
    split; · rfl
    split <;> rfl
  · unfold syncM; dsimp only; split; · rfl
    split <;> rfl
  · unfold renameM; dsimp only; split; · rfl
    split; · rfl
    split <;> rfl
  · unfold syncDirM; dsimp only; split <;> rfl
def writeM (s : FsM) (nm beside : Nm) (b : List UInt8) : FsM × Int := writeG nm beside b 5 0 s
end Go.Vc
namespace Go.Proofs.YtiadjkjlifnopaaGreatDoor.Tryz
open Go Go.Vc
theorem FsDone.trans {w w1 w2 : World} {g : Nat} {p p1 : FsP} {r' : FsM × Int} {v' : Value} (h1 : Chg (p.fp g) w w1) (hg : Grows w g p p1) (h2 : FsDone w1 g p1 r' v' w2) : FsDone w g p r' v' w2 := by
  obtain ⟨h3, h4, p2, h5, h6⟩ := h2
  exact ⟨h1.fps hg h3, h4, p2, h5, hg.trans h6 h1.size⟩
section
variable {w : World} {g : Nat} {s : FsM} {p : FsP} {gf gn gb gc : Nat} {nm beside : Nm} {A : Option Addr} {n c : Nat} {b : List UInt8}
theorem write1_has (x : FsAt w g s p) (h4 : Blk w gf 32 [ptrV g]) (h6 : Blk w gb 9 [.string (str beside)]) (hk : beside.length ≤ maxLen) (hcalls : s.calls < 1000000000 - 1) :
    Has Go.Proofs.Tryz.prog 89 #[ptrV gf, ptrV gb] w (FsDone w g p (createM s beside)) := by
  refine enter Go.Proofs.Tryz.func89 rfl rfl (by decide) rfl (e := [(0, ptrV gf), (1, ptrV gb)]) ⟨rfl, rfl, trivial⟩ ?_
  unfold ptrV at *
  repeat (first | refine W_seq ?_ | refine W_region ?_ | refine Then_n ?_ | refine WL_nil ?_ | refine WL_some rfl rfl rfl ?_ | refine op_assign rfl rfl ?_ | refine op_loadB T rfl rfl rfl rfl (by assumption) (by exact rfl) ?_)
  refine op_call rfl rfl rfl (create_has g s p beside w x hk hcalls) ?_
  intro v w1 h
  have hv := h.2.1
  subst hv
  repeat (first | refine W_ret ?_ | refine Then_n ?_ | refine WL_nil ?_ | refine WL_some rfl rfl rfl ?_ | refine op_assign rfl rfl ?_)
  exact post1 (.inl rfl) rfl rfl h
theorem write2_has (x : FsAt w g s p) (h4 : Blk w gf 32 [ptrV g]) (h6 : Blk w gb 9 [.string (str beside)]) (h7 : Blk w gc 51 [.slice A n c]) (hb : Firm (p.fp g) w (fun w => SliceOf Ru8 w (.slice A n c) b)) (hbl : b.length ≤ 1000000000) (hcalls : s.calls < 1000000000 - 1) :
    Has Go.Proofs.Tryz.prog 90 #[ptrV gf, ptrV gb, ptrV gc] w (FsDone w g p (appendM s beside b)) := by
  refine enter Go.Proofs.Tryz.func90 rfl rfl (by decide) rfl (e := [(0, ptrV gf), (1, ptrV gb), (2, ptrV gc)]) ⟨rfl, rfl, rfl, trivial⟩ ?_
  unfold ptrV at *
  repeat (first | refine W_seq ?_ | refine W_region ?_ | refine Then_n ?_ | refine WL_nil ?_ | refine WL_some rfl rfl rfl ?_ | refine op_assign rfl rfl ?_ | refine op_loadB T rfl rfl rfl rfl (by assumption) (by exact rfl) ?_)
  refine op_call rfl rfl rfl (append_has g s p beside A n c b w x hb hbl hcalls) ?_
  intro v w1 h
  have hv := h.2.1
  subst hv
  repeat (first | refine W_ret ?_ | refine Then_n ?_ | refine WL_nil ?_ | refine WL_some rfl rfl rfl ?_ | refine op_assign rfl rfl ?_)
  exact post1 (.inl rfl) rfl rfl h
theorem write3_has (x : FsAt w g s p) (h4 : Blk w gf 32 [ptrV g]) (h6 : Blk w gb 9 [.string (str beside)]) (hcalls : s.calls < 1000000000 - 1) :
    Has Go.Proofs.Tryz.prog 91 #[ptrV gf, ptrV gb] w (FsDone w g p (syncM s beside)) := by
  refine enter Go.Proofs.Tryz.func91 rfl rfl (by decide) rfl (e := [(0, ptrV gf), (1, ptrV gb)]) ⟨rfl, rfl, trivial⟩ ?_
  unfold ptrV at *
  repeat (first | refine W_seq ?_ | refine W_region ?_ | refine Then_n ?_ | refine WL_nil ?_ | refine WL_some rfl rfl rfl ?_ | refine op_assign rfl rfl ?_ | refine op_loadB T rfl rfl rfl rfl (by assumption) (by exact rfl) ?_)
  refine op_call rfl rfl rfl (sync_has g s p beside w x hcalls) ?_
  intro v w1 h
  have hv := h.2.1
  subst hv
  repeat (first | refine W_ret ?_ | refine Then_n ?_ | refine WL_nil ?_ | refine WL_some rfl rfl rfl ?_ | refine op_assign rfl rfl ?_)
  exact post1 (.inl rfl) rfl rfl h
theorem write4_has (x : FsAt w g s p) (h4 : Blk w gf 32 [ptrV g]) (h6 : Blk w gb 9 [.string (str beside)]) (h5 : Blk w gn 9 [.string (str nm)]) (hk : nm.length ≤ maxLen) (hcalls : s.calls < 1000000000 - 1) :
    Has Go.Proofs.Tryz.prog 92 #[ptrV gf, ptrV gb, ptrV gn] w (FsDone w g p (renameM s beside nm)) := by
  refine enter Go.Proofs.Tryz.func92 rfl rfl (by decide) rfl (e := [(0, ptrV gf), (1, ptrV gb), (2, ptrV gn)]) ⟨rfl, rfl, rfl, trivial⟩ ?_
  unfold ptrV at *
  repeat (first | refine W_seq ?_ | refine W_region ?_ | refine Then_n ?_ | refine WL_nil ?_ | refine WL_some rfl rfl rfl ?_ | refine op_assign rfl rfl ?_ | refine op_loadB T rfl rfl rfl rfl (by assumption) (by exact rfl) ?_)
  refine op_call rfl rfl rfl (rename_has g s p beside nm w x hk hcalls) ?_
  intro v w1 h
  have hv := h.2.1
  subst hv
  repeat (first | refine W_ret ?_ | refine Then_n ?_ | refine WL_nil ?_ | refine WL_some rfl rfl rfl ?_ | refine op_assign rfl rfl ?_)
  exact post1 (.inl rfl) rfl rfl h
set_option maxHeartbeats 4000000 in
theorem write_has (x : FsAt w g s p) (hb : Firm (p.fp g) w (fun w => SliceOf Ru8 w (.slice A n c) b)) (hbl : b.length ≤ 1000000000) (hk1 : nm.length ≤ maxLen) (hk2 : beside.length ≤ maxLen) (hcalls : s.calls < 1000000000 - 10) :
    Has Go.Proofs.Tryz.prog 51 #[ptrV g, .string (str nm), .string (str beside), .slice A n c] w (FsDone w g p (writeM s nm beside b)) := by
  refine enter Go.Proofs.Tryz.func51 rfl rfl (by decide) rfl (e := [(0, ptrV g), (1, .string (str nm)), (2, .string (str beside)), (3, .slice A n c)]) ⟨rfl, rfl, rfl, rfl, trivial⟩ ?_
  repeat (first | refine W_seq ?_ | refine W_region ?_ | refine WL_some rfl rfl rfl ?_)
  refine op_box rfl rfl (fun gf w1 hs1 hc1 h4 => ?_)
  have h4 : Blk w1 gf 32 [ptrV g] := h4
  have hs1 : w.heap.size ≤ gf := hs1
  repeat (refine WL_some rfl rfl rfl ?_)
  refine op_box rfl rfl (fun gn w2 hs2 hc2 h5 => ?_)
  have h5 : Blk w2 gn 9 [.string (str nm)] := h5
  have hs2 : w1.heap.size ≤ gn := hs2
  repeat (refine WL_some rfl rfl rfl ?_)
  refine op_box rfl rfl (fun gb w3 hs3 hc3 h6 => ?_)
  have h6 : Blk w3 gb 9 [.string (str beside)] := h6
  have hs3 : w2.heap.size ≤ gb := hs3
  repeat (refine WL_some rfl rfl rfl ?_)
  refine op_box rfl rfl (fun gc w4 hs4 hc4 h7 => ?_)
  have h7 : Blk w4 gc 51 [.slice A n c] := h7
  have hs4 : w3.heap.size ≤ gc := hs4
  have h44 := ((h4.keep0 hc2).keep0 hc3).keep0 hc4
  have h54 := (h5.keep0 hc3).keep0 hc4
  have h64 := h6.keep0 hc4
  have hc04 : Chg [] w w4 := ((hc1.trans' hc2).trans' hc3).trans' hc4
  unfold ptrV at *
  repeat (first | refine W_seq ?_ | refine W_region ?_ | refine Then_n ?_ | refine WL_nil ?_ | refine WL_some rfl rfl rfl ?_ | refine op_assign rfl rfl ?_)
  refine op_makeFunc (fv := #[]) (cv := #[.pointer (some ⟨gf, 0, none⟩), .pointer (some ⟨gb, 0, none⟩)]) rfl rfl rfl ?_
  repeat (refine WL_some rfl rfl rfl ?_)
  refine op_makeFunc (fv := #[]) (cv := #[.pointer (some ⟨gf, 0, none⟩), .pointer (some ⟨gb, 0, none⟩), .pointer (some ⟨gc, 0, none⟩)]) rfl rfl rfl ?_
  repeat (refine WL_some rfl rfl rfl ?_)
  refine op_makeFunc (fv := #[]) (cv := #[.pointer (some ⟨gf, 0, none⟩), .pointer (some ⟨gb, 0, none⟩)]) rfl rfl rfl ?_
  repeat (refine WL_some rfl rfl rfl ?_)
  refine op_makeFunc (fv := #[]) (cv := #[.pointer (some ⟨gf, 0, none⟩), .pointer (some ⟨gb, 0, none⟩), .pointer (some ⟨gn, 0, none⟩)]) rfl rfl rfl ?_
  repeat (first | refine WL_some rfl rfl rfl ?_ | refine op_loadB T rfl rfl rfl rfl (by assumption) (by exact rfl) ?_)
  refine op_makeFunc (fv := #[.pointer (some ⟨g, 0, none⟩)]) (cv := #[]) rfl rfl rfl ?_
  repeat (refine WL_some rfl rfl rfl ?_)
  refine op_buildSlice T rfl rfl rfl rfl rfl rfl rfl (fun gt w5 hs5 hc5 h8 => ?_)
  repeat (first | refine W_block ?_ | refine Then_n ?_ | refine WL_nil ?_ | refine WL_some rfl rfl rfl ?_ | refine op_move rfl rfl ?_ | refine op_len_slice T rfl rfl rfl rfl ?_)
  have h8 : Blk w5 gt 58 [.func (.func 89) #[] #[ptrV gf, ptrV gb], .func (.func 90) #[] #[ptrV gf, ptrV gb, ptrV gc], .func (.func 91) #[] #[ptrV gf, ptrV gb], .func (.func 92) #[] #[ptrV gf, ptrV gb, ptrV gn], .func (.func 41) #[ptrV g] #[]] := h8
  have hc05 : Chg [] w w5 := hc04.trans' hc5
  have x5 := x.keep0 hc05
  have hb5 := hb.step0 hc05
  have hlift : ∀ r v w', FsDone w5 g p r v w' → FsDone w g p r v w' := fun r v w' ⟨a, b', p', c', d⟩ => ⟨(hc05.mono (fun k hk _ => by cases hk)).trans a (fun _ h _ => h), b', p', c', fun k hk => (d k hk).imp id (fun h => by have := hc05.size; omega)⟩
  have hnew : ∀ k, w.heap.size ≤ k → k ∉ p.fp g := fun k hk hm => by have := x.lt k hm; omega
  have hz1 := hc1.size; have hz2 := hc2.size; have hz3 := hc3.size; have hz4 := hc4.size
  refine W_loop (σ := Nat) (fun k => [(18, .slice (some ⟨gt, 0, none⟩) 5 5), (19, .int .i64 5), (20, .int .i64 (k : Int))])
    (fun k w' => k ≤ 5 ∧ ∃ s' p', FsAt w' g s' p' ∧ Chg (p.fp g) w5 w' ∧ Grows w5 g p p' ∧ s'.calls = s.calls + k ∧ writeM s nm beside b = writeG nm beside b (5 - k) k s')
    (fun k => 5 - k) 0 ⟨rfl, rfl, rfl, trivial⟩ ⟨by omega, s, p, x5, Chg.refl _ _, Grows.refl _ _ _, by omega, rfl⟩ ?_
  rintro k w6 ⟨hk, s6, p6, x6, hc6, hg6, hcl, hw⟩
  have hnf : ∀ j, w.heap.size ≤ j → j ∉ p.fp g := hnew
  have h46 := (h44.keep0 hc5).keep hc6 (hnew _ hs1)
  have h56 := (h54.keep0 hc5).keep hc6 (hnew _ (by omega))
  have h66 := (h64.keep0 hc5).keep hc6 (hnew _ (by omega))
  have h76 := (h7.keep0 hc5).keep hc6 (hnew _ (by omega))
  have h86 := h8.keep hc6 (hnew _ (by omega))
  have hb6 : Firm (p6.fp g) w6 (fun w => SliceOf Ru8 w (.slice A n c) b) := fun w1 h => hb5 w1 (hc6.fps hg6 h)
  repeat (first | refine W_seq ?_ | refine W_region ?_ | refine WL_some rfl rfl rfl ?_)
  (refine op_lss rfl rfl rfl (fun hc => ?_) (fun hc => ?_))
  · have hk5 : k < 5 := by omega
    have hstep : ∃ nk fv cv, ([.func (.func 89) #[] #[ptrV gf, ptrV gb], .func (.func 90) #[] #[ptrV gf, ptrV gb, ptrV gc], .func (.func 91) #[] #[ptrV gf, ptrV gb], .func (.func 92) #[] #[ptrV gf, ptrV gb, ptrV gn], .func (.func 41) #[ptrV g] #[]] : List Value)[k]? = some (.func (.func nk) fv cv) ∧ Has Go.Proofs.Tryz.prog nk (fv ++ #[] ++ cv) w6 (FsDone w6 g p6 (writeK s6 nm beside b k)) := by
      match k, hk5 with
      | 0, _ => exact ⟨_, _, _, rfl, write1_has x6 h46 h66 hk2 (by omega)⟩
      | 1, _ => exact ⟨_, _, _, rfl, write2_has x6 h46 h66 h76 hb6 hbl (by omega)⟩
      | 2, _ => exact ⟨_, _, _, rfl, write3_has x6 h46 h66 (by omega)⟩
      | 3, _ => exact ⟨_, _, _, rfl, write4_has x6 h46 h66 h56 hk1 (by omega)⟩
      | 4, _ => exact ⟨_, _, _, rfl, syncDir_has g s6 p6 w6 x6 (by omega)⟩
    obtain ⟨nk, fv, cv, hcell, hhas⟩ := hstep
    have hcl2 := writeK_calls s6 nm beside b k
    have hcell6 := h86.cell hcell
    have hwg : writeG nm beside b (5 - k) k s6 = if (writeK s6 nm beside b k).2 ≠ 0 then writeK s6 nm beside b k else writeG nm beside b (5 - (k + 1)) (k + 1) (writeK s6 nm beside b k).1 := by
      rw [show 5 - k = (5 - (k + 1)) + 1 from by omega]; rfl
    repeat (first | refine W_seq ?_ | refine W_block ?_ | refine W_region ?_ | refine W_skip ?_ | refine Then_n ?_ | refine WL_nil ?_ | refine W_condT rfl ?_ | refine WL_some rfl rfl rfl ?_ | refine op_move rfl rfl ?_ | refine op_assign rfl rfl ?_ | refine op_index_own T rfl rfl rfl rfl rfl rfl (by omega) ?_ | refine op_load T rfl rfl rfl rfl (by assumption) ?_)
    refine op_callf rfl rfl rfl hhas ?_
    intro v w7 hd
    have hv := hd.2.1
    subst hv
    have hd5 : FsDone w5 g p (writeK s6 nm beside b k) _ w7 := FsDone.trans hc6 hg6 hd
    by_cases hz : (writeK s6 nm beside b k).2 = 0
    · rw [if_neg (by simp [hz])] at hwg
      obtain ⟨a1, _, p7, a3, a4⟩ := hd5
      repeat (first | refine W_seq ?_ | refine W_region ?_ | refine W_skip ?_ | refine Then_n ?_ | refine InBlock_n ?_ | refine WL_nil ?_ | refine W_condF rfl ?_ | refine WL_some rfl rfl rfl ?_ | refine op_move rfl rfl ?_ | refine op_assign rfl rfl ?_ | refine op_add rfl rfl rfl (wrap_i64_in (by omega) (by omega)) ?_ | refine op_neq rfl rfl rfl (fun hc => False.elim (by omega)) (fun hc => ?_))
      exact Round_n (k + 1) ⟨rfl, rfl, rfl, trivial⟩ ⟨by omega, _, p7, a3, a1, a4, by omega, by rw [hw, hwg]⟩ (by omega)
    · rw [if_pos hz] at hwg
      repeat (first | refine W_seq ?_ | refine W_region ?_ | refine W_ret ?_ | refine Then_n ?_ | refine Then_r ?_ | refine InBlock_r ?_ | refine Round_r ?_ | refine WL_nil ?_ | refine W_condT rfl ?_ | refine WL_some rfl rfl rfl ?_ | refine op_move rfl rfl ?_ | refine op_assign rfl rfl ?_ | refine op_neq rfl rfl rfl (fun hc => ?_) (fun hc => False.elim (by omega)))
      refine post1 (.inl rfl) rfl rfl (hlift _ _ _ ?_)
      rw [hw, hwg]; exact hd5
  · obtain rfl : k = 5 := by omega
    repeat (first | refine W_seq ?_ | refine W_region ?_ | refine W_exit ?_ | refine W_ret ?_ | refine Then_n ?_ | refine Then_x ?_ | refine InBlock_hit ?_ | refine Round_x ?_ | refine WL_nil ?_ | refine W_condF rfl ?_ | refine WL_some rfl rfl rfl ?_ | refine op_assign rfl rfl ?_)
    refine post1 (.inl rfl) rfl rfl (hlift _ _ _ ⟨hc6, ?_, p6, ?_, hg6⟩)
    · rw [hw]; rfl
    · rw [hw]; exact x6
end
end Go.Proofs.YtiadjkjlifnopaaGreatDoor.Tryz
/-! Manifests: lay. -/
set_option linter.unusedVariables false
namespace Go.Vc
open Go
def manNm : Nm := [77, 65, 78, 73, 70, 69, 83, 84]
def neuNm : Nm := [78, 69, 87]
def wholeM (S : List SegM) (Q : List ParV) (nx sq : Int) : EditM := { next := nx, seq := sq, adds := S, dels := [], pars := Q.map (·.p), drops := [] }
end Go.Vc
namespace Go.Proofs.YtiadjkjlifnopaaGreatDoor.Tryz
open Go Go.Vc
set_option maxHeartbeats 1000000 in
theorem lay_has {w : World} {gm g : Nat} {s : FsM} {p : FsP} {A : Option Addr} {c : Nat} {B : Option Addr} {d : Nat} {nx sq : Int} {cl : Bool} {S : List SegM} {Q : List ParV} (x : FsAt w g s p)
    (hm : ManB w gm g (.slice A S.length c) (.slice B Q.length d) nx sq cl) (hS : SliceK 6 (RdL segL) w (.slice A S.length c) S) (hQ : SliceK 5 (RdL parL) w (.slice B Q.length d) Q) (hp : ∀ q ∈ Q, PRd w q) (hI : EdI (wholeM S Q nx sq)) (hcalls : s.calls < 1000000000 - 10) :
    Has Go.Proofs.Tryz.prog 53 #[.pointer (some ⟨gm, 0, none⟩)] w (fun v w' => ((encE (wholeM S Q nx sq)).2 ≠ 0 → Chg [] w w' ∧ v = .int .i64 (encE (wholeM S Q nx sq)).2) ∧ ((encE (wholeM S Q nx sq)).2 = 0 → FsDone w g p (writeM s manNm neuNm (encE (wholeM S Q nx sq)).1) v w')) := by
  refine enter Go.Proofs.Tryz.func53 rfl rfl (by decide) rfl (e := [(0, .pointer (some ⟨gm, 0, none⟩))]) ⟨rfl, trivial⟩ ?_
  unfold ManB at hm
  refine run ?_
  refine go T 10 rfl ?_
  refine o1 rfl (op_load_agg T rfl rfl rfl rfl hm (by exact Nat.le_of_ble_eq_true rfl) (by exact rfl) ?_)
  refine o1 rfl ?_
  refine op_call rfl rfl rfl (whole_has A _ c B _ d nx sq w) ?_
  rintro _ w1 ⟨hc1, rfl⟩
  have hr : ERd w1 ⟨wholeM S Q nx sq, .slice A S.length c, .slice none 0 0, .slice B Q.length d, .slice none 0 0, Q⟩ := ⟨hS.keepR hc1, SliceOf.nil _ _, hQ.keepR hc1, rfl, fun q hq => (hp q hq).keep0 hc1, SliceOf.nil _ _⟩
  have hcall := encodeE_has (w := w1) ⟨wholeM S Q nx sq, .slice A S.length c, .slice none 0 0, .slice B Q.length d, .slice none 0 0, Q⟩ hI hr
  dsimp only at hcall
  generalize encE (wholeM S Q nx sq) = en at *
  obtain ⟨b, er⟩ := en
  dsimp only at hcall ⊢
  refine o1 rfl ?_
  refine op_call rfl rfl rfl hcall ?_
  rintro _ w2 ⟨u, rfl, m2, hbl⟩
  obtain ⟨Au, cu, rfl, _, _⟩ := m2.form
  have hc02 := hc1.trans' m2.chg
  have hm2 := hm.keep0 hc02
  by_cases h0 : er = 0
  · subst h0
    have hfirm := m2.firm (fun k (hk : k ∈ p.fp g) => by have := x.lt k hk; have := hc1.size; omega)
    have x2 := x.keep0 hc02
    refine go T 11 rfl ?_
    refine neF rfl rfl rfl rfl (by omega) ?_
    refine go T 10 rfl ?_
    refine ldB T hm2 rfl rfl rfl rfl rfl rfl ?_
    refine go T 1 rfl ?_
    refine o1 rfl ?_
    refine op_call rfl rfl rfl (write_has (nm := manNm) (beside := neuNm) x2 hfirm (by omega) (by show 8 ≤ maxLen; decide) (by show 3 ≤ maxLen; decide) hcalls) ?_
    intro v3 w3 hd
    have hd' : FsDone w g p (writeM s manNm neuNm b) v3 w3 := ⟨(hc02.mono (fun k hk _ => by cases hk)).trans hd.1 (fun k hk _ => hk), hd.2.1, let ⟨p', h3, h4⟩ := hd.2.2; ⟨p', h3, fun k hk => (h4 k hk).imp id (fun h => by have := hc02.size; omega)⟩⟩
    have hv := hd.2.1
    subst hv
    refine go T 4 rfl ?_
    exact post1 (.inl rfl) rfl rfl ⟨fun h => absurd rfl h, fun _ => hd'⟩
  · refine go T 11 rfl ?_
    refine neT rfl rfl rfl rfl (by omega) ?_
    refine go T 11 rfl ?_
    exact post1 (.inl rfl) rfl rfl ⟨fun _ => ⟨hc02, rfl⟩, fun h => absurd h h0⟩
end Go.Proofs.YtiadjkjlifnopaaGreatDoor.Tryz
/-! Manifests: Create. -/
set_option linter.unusedVariables false
namespace Go.Vc
open Go
def man0 : EditM := wholeM [] [] 1 1
theorem man0_enc : (encE man0).2 = 0 := by
  have h : editB man0 = true := by decide
  unfold encE
  simp [h]
end Go.Vc
namespace Go.Proofs.YtiadjkjlifnopaaGreatDoor.Tryz
open Go Go.Vc
theorem fsDoneO {w0 w w' : World} {g : Nat} {s : FsM} {p : FsP} (x : FsO w0 w g s p) {r : FsM × Int} {v : Value} (h : FsDone w g p r v w') : v = .int .i64 r.2 ∧ Chg (p.fp g) w w' ∧ ∃ p', FsO w0 w' g r.1 p' ∧ Grows w g p p' := by
  obtain ⟨h1, h2, p', h3, h4⟩ := h
  exact ⟨h2, h1, p', ⟨x.chgFp h1, h3, fun k hk => by
    rcases h4 k hk with h | h
    · exact x.fresh k h
    · have := x.chg.size; omega⟩, h4⟩
theorem createThere_has {w0 w : World} {g : Nat} {s : FsM} {p : FsP} (x : FsO w0 w g s p) (b : List UInt8) (hread : readM s manNm = some b) :
    Has Go.Proofs.Tryz.prog 19 #[ptrV g] w (fun v w' => Chg [] w w' ∧ v = .tuple #[.pointer none, .int .i64 8]) := by
  refine enter Go.Proofs.Tryz.func19 rfl rfl (by decide) rfl (e := [(0, ptrV g)]) ⟨rfl, trivial⟩ ?_
  unfold ptrV
  refine run ?_
  refine go T 10 rfl ?_
  refine o1 rfl ?_
  refine op_call rfl rfl rfl (readO_has x manNm) ?_
  rintro v1 w1 ⟨x1, hc1, h1⟩
  rw [hread] at h1
  obtain ⟨ub, rfl, hob, hfb⟩ : ∃ u, v1 = .tuple #[u, .int .i64 0] ∧ Own w1 5 1 u b.length (u8s b) ∧ ∀ h, u.ownBlock = some h → _ ≤ h := h1
  refine go T 10 rfl ?_
  refine eqT rfl rfl rfl rfl (by omega) ?_
  refine go T 11 rfl ?_
  exact post2 (.inl rfl) rfl rfl rfl ⟨hc1, rfl⟩
set_option maxHeartbeats 1000000 in
theorem createMan_has {w0 w : World} {g : Nat} {s : FsM} {p : FsP} (x : FsO w0 w g s p) (hcalls : s.calls < 1000000000 - 10) (hread : readM s manNm = none) (hz : (writeM s manNm neuNm (encE man0).1).2 = 0) :
    Has Go.Proofs.Tryz.prog 19 #[ptrV g] w (fun v w' => ∃ gm p', v = .tuple #[.pointer (some ⟨gm, 0, none⟩), .int .i64 0] ∧ Chg (p.fp g) w w' ∧ FsO w0 w' g (writeM s manNm neuNm (encE man0).1).1 p' ∧ Grows w g p p' ∧ ManB w' gm g (.slice none 0 0) (.slice none 0 0) 1 1 false ∧ gm ∉ p'.fp g ∧ w.heap.size ≤ gm) := by
  refine enter Go.Proofs.Tryz.func19 rfl rfl (by decide) rfl (e := [(0, ptrV g)]) ⟨rfl, trivial⟩ ?_
  unfold ptrV
  refine run ?_
  refine go T 10 rfl ?_
  refine o1 rfl ?_
  refine op_call rfl rfl rfl (readO_has x manNm) ?_
  rintro v1 w1 ⟨x1, hc1, h1⟩
  rw [hread] at h1
  obtain rfl : v1 = .tuple #[.slice none 0 0, .int .i64 3] := h1
  refine go T 10 rfl ?_
  refine eqF rfl rfl rfl rfl (by omega) ?_
  refine go T 8 rfl ?_
  refine o1 rfl (op_build T rfl rfl rfl rfl rfl rfl ?_)
  refine o1 rfl (op_build T rfl rfl rfl rfl rfl rfl ?_)
  refine o1 rfl ?_
  refine op_box rfl rfl (fun gm w2 hs2 hc2 hg2 => ?_)
  have hg2 : ManB w2 gm g (.slice none 0 0) (.slice none 0 0) 1 1 false := hg2
  have hs2 : w1.heap.size ≤ gm := hs2
  have x2 := x1.keep0 hc2
  have hc02 := hc1.trans' hc2
  have hout : gm ∉ p.fp g := fun hm => by have := x1.at_.lt gm hm; omega
  have hnS : SliceK 6 (RdL segL) w2 (.slice none 0 0) [] := by
    unfold SliceK
    exact ⟨none, 0, rfl, Nat.le_refl _, Nat.zero_le _, fun i x h => by simp at h⟩
  have hnQ : SliceK 5 (RdL parL) w2 (.slice none 0 0) [] := by
    unfold SliceK
    exact ⟨none, 0, rfl, Nat.le_refl _, Nat.zero_le _, fun i x h => by simp at h⟩
  have hI : EdI (wholeM [] [] 1 1) := ⟨⟨by decide, by decide⟩, ⟨by decide, by decide⟩, fun s hs => by simp [wholeM] at hs, fun q hq => by simp [wholeM] at hq⟩
  refine go T 7 rfl ?_
  refine o1 rfl ?_
  refine op_call rfl rfl rfl (lay_has (S := []) (Q := []) x2.at_ hg2 hnS hnQ (fun q hq => by cases hq) hI hcalls) ?_
  rintro v3 w3 ⟨_, hd⟩
  have hd := hd man0_enc
  have hgl := hg2
  obtain ⟨hv3, hc3, p3, x3, hg3⟩ := fsDoneO x2 hd
  change v3 = .int .i64 (writeM s manNm neuNm (encE man0).1).2 at hv3
  rw [hz] at hv3
  subst hv3
  have hgl2 : gm < w2.heap.size := Blk.lt hg2
  have hman : ManB w3 gm g (.slice none 0 0) (.slice none 0 0) 1 1 false := Blk.keep hg2 hc3 hout
  have hgrow : Grows w g p p3 := fun k hk => (hg3 k hk).imp id (fun h => by have := hc02.size; omega)
  refine go T 6 rfl ?_
  refine neF rfl rfl rfl rfl (by omega) ?_
  refine go T 13 rfl ?_
  refine post2 (.inl rfl) rfl rfl rfl ⟨gm, p3, rfl, (hc02.mono (fun k hk _ => by cases hk)).trans hc3 (fun k hk _ => hk), x3, hgrow, hman, fun hm => ?_, by have := hc1.size; omega⟩
  rcases hg3 gm hm with h | h
  · exact hout h
  · omega
end Go.Proofs.YtiadjkjlifnopaaGreatDoor.Tryz
/-! Manifests: Rewrite; Commit of no manifest. -/
set_option linter.unusedVariables false
namespace Go.Proofs.YtiadjkjlifnopaaGreatDoor.Tryz
open Go Go.Vc
theorem rewriteNil_has (w : World) : Has Go.Proofs.Tryz.prog 24 #[.pointer none] w (fun v w' => w' = w ∧ v = .int .i64 9) := by
  refine enter Go.Proofs.Tryz.func24 rfl rfl (by decide) rfl (e := [(0, .pointer none)]) ⟨rfl, trivial⟩ ?_
  refine run ?_
  refine go T 26 rfl ?_
  exact post1 (.inl rfl) rfl rfl ⟨rfl, rfl⟩
theorem commitNil_has (cs : List Value) (w : World) : Has Go.Proofs.Tryz.prog 21 #[.pointer none, .agg cs.toArray] w (fun v w' => Chg [] w w' ∧ v = .int .i64 9) := by
  refine enter Go.Proofs.Tryz.func21 rfl rfl (by decide) rfl (e := [(0, .pointer none), (1, .agg cs.toArray)]) ⟨rfl, rfl, trivial⟩ ?_
  refine run ?_
  refine go T 2 rfl ?_
  refine o1 rfl ?_
  refine op_box rfl rfl (fun g w1 hs1 hc1 hg1 => ?_)
  refine go T 24 rfl ?_
  exact post1 (.inl rfl) rfl rfl ⟨hc1, rfl⟩
set_option maxHeartbeats 1000000 in
theorem rewriteMan_has {w0 w : World} {gm g : Nat} {s : FsM} {p : FsP} {A : Option Addr} {c : Nat} {B : Option Addr} {d : Nat} {nx sq : Int} {S : List SegM} {Q : List ParV} (x : FsO w0 w g s p)
    (hm : ManB w gm g (.slice A S.length c) (.slice B Q.length d) nx sq false) (hS : SliceK 6 (RdL segL) w (.slice A S.length c) S) (hQ : SliceK 5 (RdL parL) w (.slice B Q.length d) Q) (hp : ∀ q ∈ Q, PRd w q) (hI : EdI (wholeM S Q nx sq)) (hcalls : s.calls < 1000000000 - 10)
    (hout : gm ∉ p.fp g) (hgm : w0.heap.size ≤ gm) (he : (encE (wholeM S Q nx sq)).2 = 0) (hz : (writeM s manNm neuNm (encE (wholeM S Q nx sq)).1).2 = 0) :
    Has Go.Proofs.Tryz.prog 24 #[.pointer (some ⟨gm, 0, none⟩)] w (fun v w' => v = .int .i64 0 ∧ Chg (gm :: p.fp g) w w' ∧ ∃ p', FsO w0 w' g (writeM s manNm neuNm (encE (wholeM S Q nx sq)).1).1 p' ∧ Grows w g p p' ∧ ManB w' gm g (.slice A S.length c) (.slice B Q.length d) nx sq false ∧ gm ∉ p'.fp g) := by
  refine enter Go.Proofs.Tryz.func24 rfl rfl (by decide) rfl (e := [(0, .pointer (some ⟨gm, 0, none⟩))]) ⟨rfl, trivial⟩ ?_
  have hlay := lay_has x.at_ hm hS hQ hp hI hcalls
  have hgl : gm < w.heap.size := Blk.lt hm
  have hm0 := hm
  unfold ManB at hm
  refine run ?_
  refine go T 14 rfl ?_
  refine ldB T hm rfl rfl rfl rfl rfl rfl ?_
  refine go T 9 rfl ?_
  refine o1 rfl ?_
  refine op_call rfl rfl rfl hlay ?_
  rintro v3 w3 ⟨_, hd⟩
  have hd := hd he
  obtain ⟨hv3, hc3, p3, x3, hg3⟩ := fsDoneO x hd
  rw [hz] at hv3
  subst hv3
  have hm3 : Blk w3 gm 101 [.pointer (some ⟨g, 0, none⟩), .slice A S.length c, .slice B Q.length d, .int .i64 nx, .int .i64 sq, .bool false] := Blk.keep hm hc3 hout
  have hout3 : gm ∉ p3.fp g := fun h => by
    rcases hg3 gm h with h | h
    · exact hout h
    · omega
  clear hm
  refine go T 7 rfl ?_
  refine neF rfl rfl rfl rfl (by omega) ?_
  refine go T 2 rfl ?_
  refine op0 rfl rfl ?_
  refine op_store T rfl rfl rfl rfl rfl rfl hm3 (by simp) (fun w4 hc4 hm4 _ => ?_)
  refine go T 9 rfl ?_
  refine post1 (.inl rfl) rfl rfl ⟨rfl, (hc3.mono (fun k hk _ => List.mem_cons_of_mem _ hk)).trans hc4 (fun k hk _ => by simp at hk; simp [hk]), p3, ⟨x3.chg.trans hc4 (fun k hk hlt => by simp at hk; omega), x3.at_.keep hc4 (fun k hk hm => by simp at hm; subst hm; exact hout3 hk), x3.fresh⟩, hg3, hm4, hout3⟩
end Go.Proofs.YtiadjkjlifnopaaGreatDoor.Tryz
