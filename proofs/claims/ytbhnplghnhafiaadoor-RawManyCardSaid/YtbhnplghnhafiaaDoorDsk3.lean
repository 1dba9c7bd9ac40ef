import Derived.Test.YtbhnplghnhafiaaDoorDsk2
/-! Files: a change of the directory; new ones. -/
set_option linter.unusedVariables false
set_option linter.unusedSimpArgs false
namespace Go.Vc
open Go
theorem Replay.ids {n : Nat} : ∀ {cs : List ChM} {d d' : Dir}, Replay n d cs d' → ∀ c ∈ cs, ∀ i, c.id = some i → i < n
  | [], d, d', h, c, hc => by cases hc
  | c' :: cs, d, d', h, c, hc => by
    rcases List.mem_cons.1 hc with rfl | hc
    · exact h.2.2.1
    · exact Replay.ids h.2.2.2.2.2 c hc
theorem at2_more {fb : List (Nat × Value)} (q : Nat × Value) {d : Dir} (hd : DirOk fb.length d) (k : Nm) : at2 (fb ++ [q]) d k = at2 fb d k := by
  unfold at2
  cases hl : looks d k with
  | none => rfl
  | some i =>
    have := (hd.name _ (looks_mem hl)).2
    show ((fb ++ [q])[i]?).map _ = (fb[i]?).map _
    rw [List.getElem?_append_left this]
theorem idV_more {fb : List (Nat × Value)} (q : Nat × Value) {o : Option Nat} (h : ∀ i, o = some i → i < fb.length) : idV (fb ++ [q]) o = idV fb o := by
  unfold idV
  cases o with
  | none => rfl
  | some i =>
    simp only [Option.bind_some]
    rw [List.getElem?_append_left (h i rfl)]
theorem chV_more {fb : List (Nat × Value)} (q : Nat × Value) {c : ChM} (h : ∀ i, c.id = some i → i < fb.length) : chV (fb ++ [q]) c = chV fb c := by
  unfold chV; rw [idV_more q h]
theorem flatMap_congr' {α β : Type} {f g : α → List β} : ∀ {l : List α}, (∀ x ∈ l, f x = g x) → l.flatMap f = l.flatMap g
  | [], _ => rfl
  | a :: l, h => by rw [List.flatMap_cons, List.flatMap_cons, h a (by simp), flatMap_congr' (fun x hx => h x (by simp [hx]))]
theorem chV_length (fb : List (Nat × Value)) (l : List ChM) : (l.flatMap (chV fb)).length = l.length * 4 := by
  induction l with
  | nil => rfl
  | cons a l ih => rw [List.flatMap_cons, List.length_append, ih]; simp [chV]; omega
/-- From a world to the next a file system's blocks are the old ones, or new. -/
def Grows (w : World) (g : Nat) (p p' : FsP) : Prop := ∀ k ∈ p'.fp g, k ∈ p.fp g ∨ w.heap.size ≤ k
theorem Grows.refl (w : World) (g : Nat) (p : FsP) : Grows w g p p := fun _ h => .inl h
theorem Grows.trans {w w' : World} {g : Nat} {p p' p'' : FsP} (h : Grows w g p p') (k : Grows w' g p' p'') (hs : w.heap.size ≤ w'.heap.size) : Grows w g p p'' := fun i hi => by
  rcases k i hi with h1 | h1
  · exact h i h1
  · exact .inr (Nat.le_trans hs h1)
theorem Chg.fps {w w1 w2 : World} {g : Nat} {p p' : FsP} (h1 : Chg (p.fp g) w w1) (hg : Grows w g p p') (h2 : Chg (p'.fp g) w1 w2) : Chg (p.fp g) w w2 :=
  h1.trans h2 (fun k hk hlt => by rcases hg k hk with h | h; exact h; omega)
end Go.Vc
namespace Go.Proofs.YtbhnplghnhafiaaDoor.Tryd
open Go Go.Vc
section
variable {w w' : World} {g : Nat} {s : FsM} {p : FsP} {S : List Nat}
/-- A new file's block is taken in. -/
theorem FsAt.addFile (x : FsAt w g s p) {gf : Nat} (hb : Blk w gf 65 [.slice none 0 0, .int .i64 0]) (hf : gf ∉ p.fp g) (hok : FsOk { s with files := s.files ++ [⟨[], 0⟩] }) :
    FsAt w g { s with files := s.files ++ [⟨[], 0⟩] } { p with fb := p.fb ++ [(gf, .slice none 0 0)] } := by
  have hd : DirOk p.fb.length s.dir := by rw [x.len]; exact x.ok.dir
  have hl : DirOk p.fb.length s.lasts := by rw [x.len]; exact x.ok.lasts
  have hget : ∀ (i : Nat) q, (p.fb ++ [(gf, Value.slice none 0 0)])[i]? = some q → (i < p.fb.length ∧ p.fb[i]? = some q) ∨ (i = p.fb.length ∧ q = (gf, .slice none 0 0)) := fun i q hq => by
    by_cases hi : i < p.fb.length
    · rw [List.getElem?_append_left hi] at hq; exact .inl ⟨hi, hq⟩
    · rw [List.getElem?_append_right (by omega)] at hq
      have := (List.getElem?_eq_some_iff.1 hq).1
      simp at this
      obtain rfl : i = p.fb.length := by omega
      simp at hq
      exact .inr ⟨rfl, hq.symm⟩
  have hgf : ∀ (i : Nat) f, (s.files ++ [(⟨[], 0⟩ : FileM)])[i]? = some f → i < p.fb.length → s.files[i]? = some f := fun i f hf hi => by
    rw [List.getElem?_append_left (by rw [← x.len]; exact hi)] at hf; exact hf
  have hgl : ∀ f, (s.files ++ [(⟨[], 0⟩ : FileM)])[p.fb.length]? = some f → f = ⟨[], 0⟩ := fun f hf => by
    rw [x.len, List.getElem?_append_right (Nat.le_refl _)] at hf
    simp at hf; exact hf.symm
  refine ⟨hok, x.blk, x.dirM.congr (fun k => (at2_more _ hd k).symm), x.lastsM.congr (fun k => (at2_more _ hl k).symm), ?_, by simp [x.len], fun i q f hq hf' => ?_, fun i q f hq hf' => ?_, x.apart1, ?_, fun i j q q' h hq hq' h1 h2 => ?_⟩
  · show Own w _ 4 p.wv s.waits.length (s.waits.flatMap (chV (p.fb ++ [_])))
    rw [flatMap_congr' (g := chV p.fb) (fun c hc => chV_more _ (by rw [x.len]; exact x.ok.replay.ids c hc))]
    exact x.waitsM
  · rcases hget i q hq with ⟨hi, hq⟩ | ⟨rfl, rfl⟩
    · exact x.fblk i q f hq (hgf i f hf' hi)
    · obtain rfl := hgl f hf'; exact hb
  · rcases hget i q hq with ⟨hi, hq⟩ | ⟨rfl, rfl⟩
    · exact x.fown i q f hq (hgf i f hf' hi)
    · obtain rfl := hgl f hf'; exact Own.nil _ _ _
  · rw [List.map_append]
    refine List.nodup_append.2 ⟨x.apart2, by simp, fun a ha b hb e => ?_⟩
    obtain ⟨q, hq, rfl⟩ := List.mem_map.1 ha
    simp at hb
    subst hb
    exact hf (FsP.mem_fp.2 (.inr (.inr (.inr (.inr ⟨q, hq, .inl e.symm⟩)))))
  · rcases hget i q hq with ⟨hi, hq⟩ | ⟨rfl, rfl⟩
    · rcases hget j q' hq' with ⟨hj, hq'⟩ | ⟨rfl, rfl⟩
      · exact x.apart3 i j q q' h hq hq' h1 h2
      · cases h2
    · cases h1
/-- Its directory and the row of what waits have turned. -/
theorem FsAt.rest (x : FsAt w g s p) (hc : Chg S w w') (hS : ∀ k ∈ S, k < w.heap.size → k = g ∨ k = p.md ∨ p.wv.ownBlock = some k) {s' : FsM} {wv' : Value} (hfiles : s'.files = s.files) (hl : s'.lasts = s.lasts)
    (hb : Blk w' g 56 [.int .i64 s'.room, .map (some p.md), .map (some p.ml), wv', .int .i64 s'.calls, .int .i64 s'.fail]) (hdir : MapAt keyV ptrV w' p.md (at2 p.fb s'.dir))
    (hw : Own w' 81 4 wv' s'.waits.length (s'.waits.flatMap (chV p.fb))) (hok : FsOk s') : FsAt w' g s' { p with wv := wv' } := by
  have hc := hc.mono (S' := g :: p.md :: p.wv.ownBlock.toList) (fun k hk hlt => by
    rcases hS k hk hlt with h | h | h
    · simp [h]
    · simp [h]
    · simp [h])
  have hrow : ∀ k t cs, Blk w k t cs → t ≠ 56 → t ≠ 81 → k ∉ g :: p.md :: p.wv.ownBlock.toList := fun k t cs hk h1 h2 hm => by
    rcases List.mem_cons.1 hm with rfl | hm
    · exact hk.ne_ x.blk h1 rfl
    · rcases List.mem_cons.1 hm with rfl | hm
      · exact x.dirM.ne_blk hk rfl
      · obtain ⟨cur, hr⟩ := x.waitsM.row (by simpa using hm)
        exact hk.ne_ hr h2 rfl
  refine ⟨hok, hb, hdir, ?_, hw, by rw [hfiles]; exact x.len, fun i q f hq hf => ?_, fun i q f hq hf => ?_, x.apart1, x.apart2, x.apart3⟩
  · rw [hl]
    refine x.lastsM.keep hc (fun hm => ?_)
    rcases List.mem_cons.1 hm with h | hm
    · exact x.lastsM.ne_blk x.blk h
    · rcases List.mem_cons.1 hm with h | hm
      · exact x.apart1 h.symm
      · obtain ⟨cur, hr⟩ := x.waitsM.row (show p.wv.ownBlock = some p.ml by simpa using hm)
        exact x.lastsM.ne_blk hr rfl
  · rw [hfiles] at hf
    have h1 := x.fblk i q f hq hf
    exact h1.keep hc (hrow _ _ _ h1 (by decide) (by decide))
  · rw [hfiles] at hf
    refine (x.fown i q f hq hf).keep hc (fun h hh => ?_)
    obtain ⟨cur, hr⟩ := (x.fown i q f hq hf).row hh
    exact hrow _ _ _ hr (by decide) (by decide)
end

set_option maxHeartbeats 4000000 in
theorem change_has (g : Nat) (s : FsM) (p : FsP) (c : ChM) (w : World) (x : FsAt w g s p) (hf : Fit1 s.dir c) (hi : ∀ i, c.id = some i → i < s.files.length) (hok : FsOk (changeM s c)) (hcalls : s.calls < 1000000000) :
    Has Go.Proofs.Tryd.prog 49 #[ptrV g, .agg (chV p.fb c).toArray] w
    (fun v w' => Chg (p.fp g) w w' ∧ v = .int .i64 0 ∧ ∃ wv', FsAt w' g (changeM s c) { p with wv := wv' } ∧ Grows w g p { p with wv := wv' }) := by
  refine enter Go.Proofs.Tryd.func49 rfl rfl (by decide) rfl (e := [(0, ptrV g), (1, .agg (chV p.fb c).toArray)]) ⟨rfl, rfl, trivial⟩ ?_
  unfold ptrV
  have hwl := x.ok.waits
  have hwl2 : s.waits.length < 1000000000 := by omega
  repeat (first | refine W_seq ?_ | refine W_region ?_ | refine WL_some rfl rfl rfl ?_)
  refine op_box rfl rfl (fun g1 w1 hs1 hc1 hg1 => ?_)
  have hg1 : Blk w1 g1 81 [.int .i64 c.kind, .string (str c.name), .string (str c.to), idV p.fb c.id] := hg1
  have x1 := x.keep0 hc1
  have hb1 := x1.blk
  repeat (first | refine W_seq ?_ | refine Then_n ?_ | refine WL_nil ?_ | refine WL_some rfl rfl rfl ?_ | refine op_assign rfl rfl ?_)
  refine W_walk 5 [] fol (by kernel_rfl) (by kernel_rfl) ?_
  refine Walk.plain rfl (by intro val w_ hR hp; exact op_move rfl rfl ⟨Chg.refl _ _, rfl⟩) ?_; dsimp only [List.nil_append, List.cons_append]
  refine Walk.plain rfl (by intro val w_ hR hp; exact op_nilCheck rfl rfl ⟨Chg.refl _ _, rfl⟩) ?_; dsimp only [List.nil_append, List.cons_append]
  refine Walk.plain rfl (by intro val w_ hR hp; exact op_fieldAddr T rfl rfl rfl rfl rfl rfl rfl rfl ⟨Chg.refl _ _, rfl⟩) ?_; dsimp only [List.nil_append, List.cons_append]
  refine Walk.plain rfl (by intro val w_ hR hp; exact op_load T rfl rfl rfl rfl ((Blk.keep0 hb1 hR).cell rfl) ⟨Chg.refl _ _, rfl⟩) ?_; dsimp only [List.nil_append, List.cons_append]
  refine Walk.plain rfl (by intro val w_ hR hp; exact op_load_agg T rfl rfl rfl rfl (Blk.keep0 hg1 hR) (Nat.le_of_ble_eq_true rfl) rfl ⟨Chg.refl _ _, rfl⟩) ?_; dsimp only [List.nil_append, List.cons_append]
  refine Walk.fin ?_
  intro val w2 hc2 _
  have x2 := x1.keep0 hc2
  have hg2 := hg1.keep0 hc2
  refine WL_sub (e' := [(0, .pointer (some ⟨g, 0, none⟩)), (3, .pointer (some ⟨g1, 0, none⟩)), (8, .map (some p.md)), (9, .agg (chV p.fb c).toArray)]) ⟨rfl, rfl, rfl, rfl, trivial⟩ ?_
  repeat (refine WL_some rfl rfl rfl ?_)
  refine op_call rfl rfl rfl (do_has p.md p.fb s.dir c w2 x2.dirM (by rw [x2.len]; exact x2.ok.dir) hf (by rw [x2.len]; exact hi)) ?_
  rintro v w3 ⟨hc3, hm3⟩
  have hmdb : ∀ k t cs, Blk w2 k t cs → k ∉ [p.md] := fun k t cs hk hm => by
    simp at hm; subst hm; exact x2.dirM.ne_blk hk rfl
  have hb3 := x2.blk.keep hc3 (hmdb _ _ _ x2.blk)
  have hg3 := hg2.keep hc3 (hmdb _ _ _ hg2)
  have hw3 : Own w3 81 4 p.wv s.waits.length (s.waits.flatMap (chV p.fb)) := x2.waitsM.keep hc3 (fun h hh => by
    obtain ⟨cur, hr⟩ := x2.waitsM.row hh
    exact hmdb _ _ _ hr)
  obtain ⟨Aw, cw, hwf, _, _⟩ := hw3.form
  have hS : ∀ k ∈ p.wv.ownBlock.toList, k < w3.heap.size ∧ k ∈ p.fp g := fun k hk => ⟨hw3.lt (by simpa using hk), FsP.mem_fp.2 (.inr (.inr (.inr (.inl (by simpa using hk)))))⟩
  have hne1 : g ∉ p.wv.ownBlock.toList := fun hm => by
    obtain ⟨cur, hr⟩ := hw3.row (show p.wv.ownBlock = some g by simpa using hm)
    exact hb3.ne_ hr (by decide) rfl
  have hsz1 : w.heap.size ≤ g1 := hs1
  have hne2 : g1 ∉ p.wv.ownBlock.toList := fun hm => by
    have := x.waitsM.lt (show p.wv.ownBlock = some g1 by simpa using hm)
    omega
  repeat (first | refine W_seq ?_ | refine Then_n ?_ | refine WL_nil ?_)
  refine Q.W_walkq 8 7 p.wv.ownBlock.toList fol (by kernel_rfl) (by kernel_rfl) ?_
  refine Q.Walk.plain rfl rfl (by intro val w_ hR hp; exact op_move rfl rfl ⟨Chg.refl _ _, rfl⟩) ?_; dsimp only [List.nil_append, List.cons_append]
  refine Q.Walk.plain rfl rfl (by intro val w_ hR hp; exact op_move rfl rfl ⟨Chg.refl _ _, rfl⟩) ?_; dsimp only [List.nil_append, List.cons_append]
  refine Q.Walk.plain rfl rfl (by intro val w_ hR hp; exact op_nilCheck rfl rfl ⟨Chg.refl _ _, rfl⟩) ?_; dsimp only [List.nil_append, List.cons_append]
  refine Q.Walk.plain rfl rfl (by intro val w_ hR hp; exact op_fieldAddr T rfl rfl rfl rfl rfl rfl rfl rfl ⟨Chg.refl _ _, rfl⟩) ?_; dsimp only [List.nil_append, List.cons_append]
  refine Q.Walk.plain (v := p.wv) rfl rfl (by intro val w_ hR hp; exact op_load T rfl rfl rfl rfl ((hb3.keep hR hne1).cell rfl) ⟨Chg.refl _ _, rfl⟩) ?_; dsimp only [List.nil_append, List.cons_append]
  refine Q.Walk.plain (v := .agg (chV p.fb c).toArray) rfl rfl (by intro val w_ hR hp; exact op_load_agg T rfl rfl rfl rfl (hg3.keep hR hne2) (Nat.le_of_ble_eq_true rfl) rfl ⟨Chg.refl _ _, rfl⟩) ?_; dsimp only [List.nil_append, List.cons_append]
  refine Q.Walk.rel rfl (fun u w => ∃ g5, u = .slice (some ⟨g5, 0, none⟩) 1 1 ∧ Blk w g5 81 (chV p.fb c) ∧ w3.heap.size ≤ g5) rfl (fun u a b ⟨g5, h1, h2, h3⟩ hab => ⟨g5, h1, h2.keep hab (fun hm => by have := (hS _ hm).1; omega), h3⟩) ?_ ?_
  · intro val w_ hR hp
    refine op_buildSlice T rfl rfl rfl rfl rfl rfl rfl (fun g5 w5 hs5 hc5 hg5 => ⟨hc5, g5, rfl, hg5, by have := hR.size; omega⟩)
  dsimp only [List.nil_append, List.cons_append]
  refine Q.Walk.turn rfl (fun u w => Own w 81 4 u (s.waits.length + 1) ((s.waits ++ [c]).flatMap (chV p.fb)) ∧ (u.ownBlock = p.wv.ownBlock ∨ ∃ h, u.ownBlock = some h ∧ w3.heap.size ≤ h)) rfl (fun u a b h hab => ⟨h.1.keep0 hab, h.2⟩) ?_ ?_
  · intro val w_ hR hp
    obtain ⟨g5, he, hg5, hs5⟩ : ∃ g5, val 6 = .slice (some ⟨g5, 0, none⟩) 1 1 ∧ Blk w_ g5 81 (chV p.fb c) ∧ w3.heap.size ≤ g5 := hp 6 rfl _ _ rfl rfl
    have hw_ := hw3.keep0 hR
    refine op_append T (n := s.waits.length) (xs := s.waits.flatMap (chV p.fb)) (m := 1) (news := chV p.fb c) rfl rfl rfl (congrArg some he) rfl rfl rfl rfl hw_ rfl ?_ (by unfold maxLen; omega) (by show (s.waits.length + 1) * _ ≤ _; exact Nat.le_trans (Nat.mul_le_mul_right _ (show s.waits.length + 1 ≤ 1000000000 by omega)) (by decide)) ?_
    · intro j u hj
      refine ⟨⟨_, rfl, by rw [add_plain]; exact hg5.cell hj⟩, ?_⟩
      obtain ⟨ip, hip⟩ := idV_form p.fb c.id
      unfold chV at hj
      rw [hip] at hj
      match j, hj with
      | 0, hj => cases hj; rfl
      | 1, hj => cases hj; rfl
      | 2, hj => cases hj; rfl
      | 3, hj => cases hj; rfl
    · intro u w6 hu hc6 hb6 _
      refine ⟨hc6, ?_, hb6.imp id (fun ⟨h, h1, h2⟩ => ⟨h, h1, by have := hR.size; omega⟩)⟩
      rw [List.flatMap_append]
      simpa using hu
  dsimp only [List.nil_append, List.cons_append]
  refine Q.Walk.fin ?_
  intro val w6 hc6 hp
  obtain ⟨hw6, hwb6⟩ : Own w6 81 4 (val 7) (s.waits.length + 1) ((s.waits ++ [c]).flatMap (chV p.fb)) ∧ ((val 7).ownBlock = p.wv.ownBlock ∨ ∃ h, (val 7).ownBlock = some h ∧ w3.heap.size ≤ h) := hp 7 (by omega) _ _ rfl rfl
  clear hp
  refine WL_sub (e' := [(0, .pointer (some ⟨g, 0, none⟩)), (11, .pointer (some ⟨g, 0, none⟩)), (18, val 7)]) ⟨rfl, rfl, rfl, trivial⟩ ?_
  generalize val 7 = wv6 at hw6 hwb6
  obtain ⟨A6, c6, rfl, _, _⟩ := hw6.form
  have hb6 := hb3.keep hc6 hne1
  have hm6 := hm3.keep hc6 (fun hm => by
    obtain ⟨cur, hr⟩ := hw3.row (show p.wv.ownBlock = some p.md by simpa using hm)
    exact hm3.ne_blk hr rfl)
  repeat (first | refine WL_some rfl rfl rfl ?_ | refine WL_none rfl rfl ?_ | refine op_nilCheck rfl rfl ?_ | refine op_fieldAddr T rfl rfl rfl rfl rfl rfl rfl rfl ?_)
  refine op_store T rfl rfl rfl rfl rfl rfl hb6 (Nat.le_of_ble_eq_true rfl) (fun w7 hc7 hb7 _ => ?_)
  repeat (first | refine W_seq ?_ | refine W_region ?_ | refine W_ret ?_ | refine Then_n ?_ | refine WL_nil ?_ | refine WL_some rfl rfl rfl ?_ | refine op_assign rfl rfl ?_)
  have hc02 : Chg [] w w2 := hc1.trans' hc2
  have hc07 : Chg (g :: p.md :: p.wv.ownBlock.toList) w w7 := (((hc02.mono (fun k hk _ => by cases hk)).trans hc3 (fun k hk _ => by simp at hk; simp [hk])).trans hc6 (fun k hk _ => by simp at hk; simp [hk])).trans hc7 (fun k hk _ => by simp at hk; simp [hk])
  have hsz : w.heap.size ≤ w3.heap.size := Nat.le_trans hc02.size hc3.size
  refine post1 (.inl rfl) rfl rfl ⟨hc07.mono (fun k hk _ => ?_), rfl, _, x.rest hc07 (fun k hk _ => by simpa using hk) rfl rfl hb7 (hm6.keep hc7 (by simpa using hm6.ne_blk hb6)) ?_ hok, ?_⟩
  · simp at hk
    rcases hk with h | h | h
    · exact FsP.mem_fp.2 (.inl h)
    · exact FsP.mem_fp.2 (.inr (.inl h))
    · exact FsP.mem_fp.2 (.inr (.inr (.inr (.inl h))))
  · show Own w7 _ 4 _ (s.waits ++ [c]).length _
    rw [List.length_append]
    refine hw6.keep hc7 (fun h hh hm => ?_)
    simp at hm
    obtain ⟨cur, hr⟩ := hw6.row hh
    rw [hm] at hr
    exact hb6.ne_ hr (by decide) rfl
  · intro k hk
    rcases FsP.mem_fp.1 hk with h | h | h | h | h
    · exact .inl (FsP.mem_fp.2 (.inl h))
    · exact .inl (FsP.mem_fp.2 (.inr (.inl h)))
    · exact .inl (FsP.mem_fp.2 (.inr (.inr (.inl h))))
    · rcases hwb6 with h1 | ⟨i, h1, h2⟩
      · exact .inl (FsP.mem_fp.2 (.inr (.inr (.inr (.inl (h1.symm.trans h))))))
      · have h : Value.ownBlock _ = some k := h
        rw [h1] at h; injection h with h; exact .inr (by omega)
    · exact .inl (FsP.mem_fp.2 (.inr (.inr (.inr (.inr h)))))
end Go.Proofs.YtbhnplghnhafiaaDoor.Tryd
