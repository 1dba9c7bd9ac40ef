/- The walk of one law and the row that it ends in: whatever the arguments that can be read as data, the call returns true and leaves what was there as it was. No condition. -/
import Derived.Test.YtiadjkjlifnopaaGreatManifestAnyK4
import Derived.Test.YtiadjkjlifnopaaGreatManifestAnyK2
import Derived.Test.YtiadjkjlifnopaaGreatManifestAnyK1
import Derived.Test.YtiadjkjlifnopaaGreatManifestAnyK3
import Derived.Test.YtiadjkjlifnopaaGreatRows
import Derived.ProofKit
import Derived.OpenShut
import Derived.ChangeOld
import Derived.ChangeCalls
import Derived.Deep.Slices
/-! Manifests of the call's own; Commit of an edit that applies. -/
set_option linter.unusedVariables false
namespace Go.Vc
open Go
/-- What a manifest's two rows read as. -/
structure StRd (w : World) (vs vp : Value) (st : StM) : Prop where
  segs : SliceK 6 (RdL segL) w vs st.segs
  pars : SliceK 5 (RdL parSL) w vp st.pars
  prd : ∀ q ∈ st.pars, PRd w q.1
theorem StRd.keep0 {w w' : World} {vs vp : Value} {st : StM} (h : StRd w vs vp st) (hc : Chg [] w w') : StRd w' vs vp st := ⟨h.segs.keepR hc, h.pars.keepR hc, fun q hq => (h.prd q hq).keep0 hc⟩
theorem putK_mem {α : Type} {key : α → Int} {xs L L' : List α} (h : putK key xs L = some L') {x : α} (hx : x ∈ L') : x ∈ L ∨ x ∈ xs := by
  rw [(putK_eq h).1] at hx
  exact List.mem_append.1 hx
theorem applyM_pars {st st' : StM} {e : EditM} {X : List ParS} {first : Bool} (h : applyM st e X first = some st') {q : ParS} (hq : q ∈ st'.pars) : q ∈ st.pars ∨ q ∈ X := by
  unfold applyM at h
  dsimp only at h
  obtain ⟨hc, h⟩ := ite_some h
  subst h
  dsimp only at hq
  cases h2 : putK parKey X ((takeK parKey e.drops st.pars).getD []) with
  | none => rw [h2] at hq; simp at hq
  | some M =>
    rw [h2] at hq
    have hq : q ∈ sortK parKey M := hq
    rcases putK_mem h2 ((sortK_perm parKey M).mem_iff.1 hq) with h3 | h3
    · cases h4 : takeK parKey e.drops st.pars with
      | none => rw [h4] at h3; simp at h3
      | some L => rw [h4] at h3; exact .inl ((takeK_sub h4).mem h3)
    · exact .inr h3
theorem appendM_callsG (s : FsM) (k : Nm) (b : List UInt8) : (appendM s k b).1.calls = s.calls + 1 := by
  unfold appendM; simp only; (repeat' split) <;> rfl
/-- Append, then sync. -/
def commitF (s : FsM) (b : List UInt8) : FsM × Int := if (appendM s manNm b).2 = 0 then syncM (appendM s manNm b).1 manNm else appendM s manNm b
end Go.Vc
namespace Go.Proofs.YtiadjkjlifnopaaGreat.Tryz
open Go Go.Vc
/-- A manifest, and its files, that were made since w0. -/
structure ManO (w0 w : World) (gm g : Nat) (s : FsM) (p : FsP) (st : StM) (cl : Bool) : Prop where
  fs : FsO w0 w g s p
  rows : ∃ vs vp, ManB w gm g vs vp st.next st.seq cl ∧ Firm (gm :: p.fp g) w (fun w => StRd w vs vp st)
  out : gm ∉ p.fp g
  fresh : w0.heap.size ≤ gm
section
variable {w0 w w' : World} {gm g : Nat} {s : FsM} {p p' : FsP} {st : StM} {cl : Bool}
theorem ManO.lt (x : ManO w0 w gm g s p st cl) : gm < w.heap.size := let ⟨_, _, h, _⟩ := x.rows; Blk.lt h
theorem ManO.keep0 (x : ManO w0 w gm g s p st cl) (hc : Chg [] w w') : ManO w0 w' gm g s p st cl := by
  obtain ⟨vs, vp, h1, h2⟩ := x.rows
  exact ⟨x.fs.keep0 hc, ⟨vs, vp, Blk.keep0 h1 hc, h2.step0 hc⟩, x.out, x.fresh⟩
theorem ManO.base {w1 : World} (x : ManO w1 w gm g s p st cl) (hc : Chg [] w0 w1) : ManO w0 w gm g s p st cl := ⟨x.fs.base hc, x.rows, x.out, by have := x.fresh; have := hc.size; omega⟩
theorem firm_grow {φ : World → Prop} (h : Firm (gm :: p.fp g) w φ) (hc : Chg (gm :: p.fp g) w w') (hg : Grows w g p p') : Firm (gm :: p'.fp g) w' φ := fun w1 h1 => h w1 (hc.trans h1 (fun k hk hlt => by
  rcases List.mem_cons.1 hk with rfl | hk
  · simp
  · rcases hg k hk with h | h
    · simp [h]
    · omega))
theorem own_firm {S : List Nat} {t : TypeId} {k n : Nat} {v : Value} {xs : List Value} (h : Own w t k v n xs) (hb : ∀ i, v.ownBlock = some i → i ∉ S) : Firm S w (fun w => Own w t k v n xs) := fun w1 h1 => h.keep h1 (fun i hi hm => hb i hi hm)
end
def a0M (w : World) (st' : StM) (v : Value) (w' : World) : Prop := ∃ g5 ua up, v = .pointer (some ⟨g5, 0, none⟩) ∧ w.heap.size ≤ g5 ∧ Blk w' g5 67 [ua, up, .int .i64 st'.next, .int .i64 st'.seq] ∧ Own w' 44 6 ua st'.segs.length (st'.segs.flatMap segL) ∧ Own w' 96 5 up st'.pars.length (st'.pars.flatMap parSL) ∧ (∀ g, ua.ownBlock = some g → w.heap.size ≤ g) ∧ ∀ g, up.ownBlock = some g → w.heap.size ≤ g
def stV (w : World) (st' : StM) (v : Value) (w' : World) : Prop := ∃ ua up, v = .agg #[ua, up, .int .i64 st'.next, .int .i64 st'.seq] ∧ Own w' 44 6 ua st'.segs.length (st'.segs.flatMap segL) ∧ Own w' 96 5 up st'.pars.length (st'.pars.flatMap parSL) ∧ (∀ g, ua.ownBlock = some g → w.heap.size ≤ g) ∧ ∀ g, up.ownBlock = some g → w.heap.size ≤ g
theorem stV_firm {w : World} {st' : StM} (v : Value) (w1 w2 : World) (h : stV w st' v w1) (hc : Chg [] w1 w2) : stV w st' v w2 := by
  obtain ⟨ua, up, h1, h2, h3, h4⟩ := h
  exact ⟨ua, up, h1, h2.keep0 hc, h3.keep0 hc, h4⟩
theorem a0M_firm {w : World} {st' : StM} (v : Value) (w1 w2 : World) (h : a0M w st' v w1) (hc : Chg [] w1 w2) : a0M w st' v w2 := by
  obtain ⟨g5, ua, up, h1, h0, hb, h2, h3, h4⟩ := h
  exact ⟨g5, ua, up, h1, h0, hb.keep0 hc, h2.keep0 hc, h3.keep0 hc, h4⟩
set_option maxHeartbeats 4000000 in
theorem commit_has {w0 w : World} {gm g : Nat} {s : FsM} {p : FsP} {st st' : StM} (x : ManO w0 w gm g s p st false) {e : EditM} {xa xd xp xr : Value} {X : List ParS} (hI : EdI e) (hr : Firm (gm :: p.fp g) w (fun w => ERd w ⟨e, xa, xd, xp, xr, X.map (·.1)⟩))
    (hn1 : (st.segs.map numK).Nodup) (hn2 : (st.pars.map parKey).Nodup) (hb1 : st.segs.length ≤ 1000) (hb2 : st.pars.length ≤ 1000) (hap : applyM st e X false = some st') (hcalls : s.calls < 1000000000 - 10) :
    Has Go.Proofs.Tryz.prog 13 #[.pointer (some ⟨gm, 0, none⟩), .agg #[.int .i64 e.next, .int .i64 e.seq, xa, xd, xp, xr]] w (fun v w' => v = .int .i64 (commitF s (encE e).1).2 ∧ Chg (gm :: p.fp g) w w' ∧ ∃ p', Grows w g p p' ∧ ManO w0 w' gm g (commitF s (encE e).1).1 p' (if (commitF s (encE e).1).2 = 0 then st' else st) (decide ((commitF s (encE e).1).2 ≠ 0))) := by
  obtain ⟨vs, vp, hm, hst⟩ := x.rows
  refine enter Go.Proofs.Tryz.func13 rfl rfl (by decide) rfl (e := [(0, .pointer (some ⟨gm, 0, none⟩)), (1, .agg #[.int .i64 e.next, .int .i64 e.seq, xa, xd, xp, xr])]) ⟨rfl, rfl, trivial⟩ ?_
  unfold ManB at hm
  refine run ?_
  refine go T 2 rfl ?_
  refine o1 rfl ?_
  refine op_box rfl rfl (fun g3 w1 hs1 hc1 hg3 => ?_)
  have hg3 : Blk w1 g3 40 [.int .i64 e.next, .int .i64 e.seq, xa, xd, xp, xr] := hg3
  have hgl := hm.lt
  replace hm := hm.keep0 hc1
  replace hst := hst.step0 hc1
  replace hr := hr.step0 hc1
  have xf := x.fs.keep0 hc1
  refine go T 12 rfl ?_
  refine ldB T hm rfl rfl rfl rfl rfl rfl ?_
  refine go T 7 rfl ?_
  refine G.W_walkrf 11 10 9 (a0M w1 st') (fun v a b h hc => a0M_firm v a b h hc) (by decide) (by intro o ho; cases ho; rfl) fol (by kernel_rfl) (by kernel_rfl) ?_
  refine G.Walk.plain (v := .pointer (some ⟨gm, 0, none⟩)) (by decide) rfl (by intro val w_ hR hp; exact op_move rfl rfl ⟨Chg.refl _ _, rfl⟩) ?_; dsimp only [List.nil_append, List.cons_append]
  refine G.Walk.plain (v := .pointer (some ⟨gm, 0, none⟩)) (by decide) rfl (by intro val w_ hR hp; exact op_nilCheck rfl rfl ⟨Chg.refl _ _, rfl⟩) ?_; dsimp only [List.nil_append, List.cons_append]
  refine G.Walk.plain (v := .pointer (some ⟨gm, 1, none⟩)) (by decide) rfl (by intro val w_ hR hp; exact op_fieldAddr T rfl rfl rfl rfl rfl rfl rfl rfl ⟨Chg.refl _ _, rfl⟩) ?_; dsimp only [List.nil_append, List.cons_append]
  refine G.Walk.plain (v := .agg #[vs, vp, .int .i64 st.next, .int .i64 st.seq]) (by decide) rfl (by intro val w_ hR hp; exact op_load_agg T rfl rfl rfl rfl (hm.keep0 hR) (by exact Nat.le_of_ble_eq_true rfl) (by exact rfl) ⟨Chg.refl _ _, rfl⟩) ?_; dsimp only [List.nil_append, List.cons_append]
  refine G.Walk.plain (v := .agg #[.int .i64 e.next, .int .i64 e.seq, xa, xd, xp, xr]) (by decide) rfl (by intro val w_ hR hp; exact op_load_agg T rfl rfl rfl rfl (hg3.keep0 hR) (by exact Nat.le_of_ble_eq_true rfl) (by exact rfl) ⟨Chg.refl _ _, rfl⟩) ?_; dsimp only [List.nil_append, List.cons_append]
  refine G.Walk.rel (fun v w' => ∃ u, v = .tuple #[u, .bool true] ∧ stV w1 st' u w') (by decide) rfl (fun v a b h hab => let ⟨u, h1, h2⟩ := h; ⟨u, h1, stV_firm u a b h2 hab⟩) ?_ ?_
  · intro val w_ hR hp
    have h0 := hst.now
    have hcall := apply_has st vs vp ⟨e, xa, xd, xp, xr, X.map (·.1)⟩ X false w_ (h0.segs.keepR hR) (h0.pars.keepR hR) hI (hr.now.keep0 hR) rfl hb1 hb2 hn1 hn2
    refine op_call rfl rfl rfl hcall ?_
    rintro v w' ⟨h1, _, h2⟩
    obtain ⟨ua, up, h3, h4, h5, h6, h7⟩ := h2 st' hap
    have hz := hR.size
    exact ⟨h1, _, h3, ua, up, rfl, h4, h5, fun k hk => by have := h6 k hk; omega, fun k hk => by have := h7 k hk; omega⟩
  dsimp only [List.nil_append, List.cons_append]
  refine G.Walk.rel (fun v w' => ∃ u, v = .tuple #[u, .bool true] ∧ stV w1 st' u w') (by decide) rfl (fun v a b h hab => let ⟨u, h1, h2⟩ := h; ⟨u, h1, stV_firm u a b h2 hab⟩) ?_ ?_
  · intro val w_ hR hp
    obtain ⟨h5, _⟩ := hp 5 rfl _ _ rfl rfl
    exact op_move rfl rfl ⟨Chg.refl _ _, h5 rfl⟩
  dsimp only [List.nil_append, List.cons_append]
  refine G.Walk.rel (stV w1 st') (by decide) rfl (fun v a b h hab => stV_firm v a b h hab) ?_ ?_
  · intro val w_ hR hp
    obtain ⟨h6, _⟩ := hp 6 rfl _ _ rfl rfl
    obtain ⟨u, h1, h2⟩ := h6 rfl
    have h1 : val 6 = .tuple #[u, .bool true] := h1
    exact op_extract rfl (show some (val 6) = _ by rw [h1]) rfl ⟨Chg.refl _ _, h2⟩
  dsimp only [List.nil_append, List.cons_append]
  refine G.Walk.plain (v := .bool true) (by decide) rfl ?_ ?_
  · intro val w_ hR hp
    obtain ⟨_, w2, h6⟩ := hp 6 rfl _ _ rfl rfl
    obtain ⟨u, h1, h2⟩ := h6
    have h1 : val 6 = .tuple #[u, .bool true] := h1
    exact op_extract rfl (show some (val 6) = _ by rw [h1]) rfl ⟨Chg.refl _ _, rfl⟩
  dsimp only [List.nil_append, List.cons_append]
  refine G.Walk.rel (fun v w' => ∃ g5, v = .pointer (some ⟨g5, 0, none⟩) ∧ w1.heap.size ≤ g5 ∧ Blk w' g5 67 [.slice none 0 0, .slice none 0 0, .int .i64 0, .int .i64 0]) (by decide) rfl (fun v a b h hab => let ⟨g5, h1, h2, h3⟩ := h; ⟨g5, h1, h2, h3.keep0 hab⟩) ?_ ?_
  · intro val w_ hR hp
    refine op_alloc T rfl rfl (fun g5 w5 hs5 hc5 hg5 => ⟨hc5, g5, rfl, by have := hR.size; omega, hg5⟩)
  dsimp only [List.nil_append, List.cons_append]
  refine G.Walk.turnQ rfl (fun _ _ => True) rfl (fun _ _ _ _ _ => trivial) ?_ ?_
  · intro val w_ hR hp
    obtain ⟨ua, up, h7, h8, h9, h10, h11⟩ := hp 7 rfl _ _ rfl rfl
    obtain ⟨g5, h12, h13, h14⟩ := hp 9 rfl _ _ rfl rfl
    have h7 : val 7 = .agg #[ua, up, .int .i64 st'.next, .int .i64 st'.seq] := h7
    have h12 : val 9 = .pointer (some ⟨g5, 0, none⟩) := h12
    have hall : ([ua, up, Value.int .i64 st'.next, Value.int .i64 st'.seq].all (·.oneCell')) = true := by
      simp only [List.all_cons, List.all_nil, own_one h8, own_one h9, Bool.true_and]; rfl
    refine op_store_agg T rfl (show some (val 9) = some (.pointer (some ⟨g5, 0, none⟩)) by rw [h12]) (show some (val 7) = some (.agg #[ua, up, .int .i64 st'.next, .int .i64 st'.seq]) by rw [h7]) rfl rfl hall h14 (by exact Nat.le_of_ble_eq_true rfl) (fun w6 hc6 hn _ => ?_)
    refine ⟨⟨[g5], fun k hk => by simp at hk; omega, hc6⟩, trivial, g5, ua, up, h12, h13, hn, ?_, ?_, h10, h11⟩
    · refine h8.keep hc6 (fun k hk hm => ?_)
      obtain ⟨c1, hr1⟩ := h8.row hk
      simp only [List.mem_singleton] at hm
      subst hm
      exact hr1.ne_ h14 (by decide) rfl
    · refine h9.keep hc6 (fun k hk hm => ?_)
      obtain ⟨c1, hr1⟩ := h9.row hk
      simp only [List.mem_singleton] at hm
      subst hm
      exact hr1.ne_ h14 (by decide) rfl
  dsimp only [List.nil_append, List.cons_append]
  refine G.Walk.fin ?_
  intro val w2 hc2 hp1 hp2 hA0
  clear hp1 hp2
  obtain ⟨g5, ua, up, hv9, hs5, hg5, ho1, ho2, hf1, hf2⟩ := hA0 _ _ rfl rfl
  have hv9 : val 9 = .pointer (some ⟨g5, 0, none⟩) := hv9
  refine WL_sub (e' := [(0, .pointer (some ⟨gm, 0, none⟩)), (3, .pointer (some ⟨g3, 0, none⟩)), (5, .pointer (some ⟨g5, 0, none⟩)), (26, .bool true)]) ⟨rfl, rfl, congrArg some hv9, rfl, trivial⟩ ?_
  have hg3l := hg3.lt
  replace hm := hm.keep0 hc2
  replace hst := hst.step0 hc2
  replace hr := hr.step0 hc2
  replace hg3 := hg3.keep0 hc2
  replace xf := xf.keep0 hc2
  have hc02 := hc1.trans' hc2
  clear hA0 hv9 hc2 hc1
  refine runL ?_
  refine go T 15 rfl ?_
  refine o1 rfl (op_load_agg T rfl rfl rfl rfl hg3 (by exact Nat.le_of_ble_eq_true rfl) (by exact rfl) ?_)
  refine o1 rfl ?_
  have hcall := encodeE_has (w := w2) ⟨e, xa, xd, xp, xr, X.map (·.1)⟩ hI hr.now
  dsimp only at hcall
  generalize encE e = en at *
  obtain ⟨b, er⟩ := en
  dsimp only at hcall ⊢
  refine op_call rfl rfl rfl hcall ?_
  rintro _ w3 ⟨u, rfl, m3, hbl⟩
  obtain ⟨Au, cu, rfl, _, _⟩ := m3.form
  have hfirm := m3.firm (fun k (hk : k ∈ p.fp g) => by have := xf.at_.lt k hk; omega)
  have hc3 := m3.chg
  have hz23 := hc3.size
  have hg5l := hg5.lt
  have hg32 := hg3.lt
  have hgm2 := hm.lt
  replace hm := hm.keep0 hc3
  replace hst := hst.step0 hc3
  replace hr := hr.step0 hc3
  replace hg5 := hg5.keep0 hc3
  replace xf := xf.keep0 hc3
  replace ho1 := ho1.keep0 hc3
  replace ho2 := ho2.keep0 hc3
  have hc03 := hc02.trans' hc3
  have hz03 := hc03.size
  clear hcall m3
  refine go T 12 rfl ?_
  refine ldB T hm rfl rfl rfl rfl rfl rfl ?_
  refine go T 1 rfl ?_
  refine o1 rfl ?_
  refine op_call rfl rfl rfl (append_has g s p manNm Au b.length cu b w3 xf.at_ hfirm (by omega) (by omega)) ?_
  intro v4 w4 hd4
  obtain ⟨hv4, hc4, p4, x4, hg4⟩ := fsDoneO xf hd4
  have hnew : Firm (gm :: p.fp g) w3 (fun w => StRd w ua up st') := fun w1 h1 => by
    have hin : ∀ i, w.heap.size ≤ i → i ∉ gm :: p.fp g := fun i hi hm' => by
      rcases List.mem_cons.1 hm' with rfl | hm'
      · omega
      · have := x.fs.at_.lt i hm'; omega
    refine ⟨(own_firm ho1 (fun i hi => hin i (by have := hf1 i hi; omega)) w1 h1).readsK (fun s => rfl), (own_firm ho2 (fun i hi => hin i (by have := hf2 i hi; omega)) w1 h1).readsK (fun s => rfl), fun q hq => ?_⟩
    rcases applyM_pars hap hq with h | h
    · exact (hst w1 h1).prd q h
    · exact (hr w1 h1).prd q.1 (List.mem_map.2 ⟨q, h, rfl⟩)
  have hc4' : Chg (gm :: p.fp g) w3 w4 := hc4.mono (fun k hk _ => by simp [hk])
  have hout4 : gm ∉ p4.fp g := fun h => by
    rcases hg4 gm h with h | h
    · exact x.out h
    · omega
  replace hm := hm.keep hc4 x.out
  replace hg5 := hg5.keep hc4 (fun h => by have := x.fs.at_.lt g5 h; omega)
  have hst4 := firm_grow hst hc4' hg4
  have hnew4 := firm_grow hnew hc4' hg4
  by_cases ha : (appendM s manNm b).2 = 0
  · have hcf : commitF s b = syncM (appendM s manNm b).1 manNm := by unfold commitF; rw [if_pos ha]
    rw [ha] at hv4
    subst hv4
    refine go T 7 rfl ?_
    refine eqT rfl rfl rfl rfl (by omega) ?_
    refine go T 7 rfl ?_
    refine ldB T hm rfl rfl rfl rfl rfl rfl ?_
    refine o1 rfl ?_
    refine op_call rfl rfl rfl (sync_has g _ p4 manNm w4 x4.at_ (by rw [appendM_callsG]; omega)) ?_
    intro v5 w5 hd5
    obtain ⟨hv5, hc5, p5, x5, hg5'⟩ := fsDoneO x4 hd5
    rw [hcf]
    have hc5' : Chg (gm :: p4.fp g) w4 w5 := hc5.mono (fun k hk _ => by simp [hk])
    have hz4 := hc4.size
    have hout5 : gm ∉ p5.fp g := fun h => by
      rcases hg5' gm h with h | h
      · exact hout4 h
      · omega
    have hg5p : g5 ∉ p4.fp g := fun h => by
      rcases hg4 g5 h with h | h
      · have := x.fs.at_.lt g5 h; omega
      · have := hg5.lt; omega
    replace hm := hm.keep hc5 hout4
    replace hg5 := hg5.keep hc5 hg5p
    have hst5 := firm_grow hst4 hc5' hg5'
    have hnew5 := firm_grow hnew4 hc5' hg5'
    have hgr : Grows w g p p5 := fun k hk => by
      rcases hg5' k hk with h | h
      · rcases hg4 k h with h | h
        · exact .inl h
        · exact .inr (by omega)
      · exact .inr (by omega)
    have hc05 : Chg (gm :: p.fp g) w w5 := ((hc03.mono (fun k hk _ => by cases hk)).trans hc4' (fun k hk _ => hk)).trans hc5' (fun k hk hlt => by
      rcases List.mem_cons.1 hk with rfl | hk
      · simp
      · rcases hg4 k hk with h | h
        · simp [h]
        · omega)
    have hz5 := hc5.size
    generalize (syncM (appendM s manNm b).1 manNm) = r5 at *
    obtain ⟨s5, e5⟩ := r5
    dsimp only at hv5 x5 ⊢
    subst hv5
    by_cases h5 : e5 = 0
    · subst h5
      refine go T 7 rfl ?_
      refine neF rfl rfl rfl rfl (by omega) ?_
      refine go T 8 rfl ?_
      refine o1 rfl (op_load_agg T rfl rfl rfl rfl hg5 (by exact Nat.le_of_ble_eq_true rfl) (by exact rfl) ?_)
      refine go T 2 rfl ?_
      refine op0 rfl rfl ?_
      have hall : ([ua, up, Value.int .i64 st'.next, Value.int .i64 st'.seq].all (·.oneCell')) = true := by
        simp only [List.all_cons, List.all_nil, own_one ho1, own_one ho2, Bool.true_and]; rfl
      refine op_store_agg T rfl rfl rfl rfl rfl hall hm (by exact Nat.le_of_ble_eq_true rfl) (fun w6 hc6 hn6 _ => ?_)
      refine go T 8 rfl ?_
      have hc6' : Chg (gm :: p5.fp g) w5 w6 := hc6.mono (fun k hk _ => by simp at hk; simp [hk])
      refine post1 (.inl rfl) rfl rfl ⟨rfl, hc05.trans hc6 (fun k hk _ => by simp at hk; simp [hk]), p5, hgr, ?_⟩
      refine ⟨⟨x5.chg.trans hc6 (fun k hk hlt => by simp at hk; have := x.fresh; omega), x5.at_.keep hc6 (fun k hk hm => by simp at hm; subst hm; exact hout5 hk), x5.fresh⟩, ⟨ua, up, hn6, hnew5.step hc6 (fun k hk _ => by simp at hk; simp [hk])⟩, hout5, x.fresh⟩
    · refine go T 7 rfl ?_
      refine neT rfl rfl rfl rfl (by omega) ?_
      refine go T 8 rfl ?_
      refine op0 rfl rfl ?_
      refine op_store T rfl rfl rfl rfl rfl rfl hm (by simp) (fun w6 hc6 hn6 _ => ?_)
      refine go T 10 rfl ?_
      rw [if_neg h5, decide_eq_true h5]
      refine post1 (.inl rfl) rfl rfl ⟨rfl, hc05.trans hc6 (fun k hk _ => by simp at hk; simp [hk]), p5, hgr, ?_⟩
      refine ⟨⟨x5.chg.trans hc6 (fun k hk hlt => by simp at hk; have := x.fresh; omega), x5.at_.keep hc6 (fun k hk hm => by simp at hm; subst hm; exact hout5 hk), x5.fresh⟩, ⟨vs, vp, hn6, hst5.step hc6 (fun k hk _ => by simp at hk; simp [hk])⟩, hout5, x.fresh⟩
  · have hcf : commitF s b = appendM s manNm b := by unfold commitF; rw [if_neg ha]
    rw [hcf]
    have hgr : Grows w g p p4 := fun k hk => by
      rcases hg4 k hk with h | h
      · exact .inl h
      · exact .inr (by omega)
    have hc05 : Chg (gm :: p.fp g) w w4 := (hc03.mono (fun k hk _ => by cases hk)).trans hc4' (fun k hk _ => hk)
    have hz5 := hc4.size
    generalize (appendM s manNm b) = r5 at *
    obtain ⟨s5, e5⟩ := r5
    dsimp only at hv4 x4 ha ⊢
    subst hv4
    refine go T 7 rfl ?_
    refine eqF rfl rfl rfl rfl (by omega) ?_
    refine go T 9 rfl ?_
    refine neT rfl rfl rfl rfl (by omega) ?_
    refine go T 8 rfl ?_
    refine op0 rfl rfl ?_
    refine op_store T rfl rfl rfl rfl rfl rfl hm (by simp) (fun w6 hc6 hn6 _ => ?_)
    refine go T 10 rfl ?_
    rw [if_neg ha, decide_eq_true ha]
    refine post1 (.inl rfl) rfl rfl ⟨rfl, hc05.trans hc6 (fun k hk _ => by simp at hk; simp [hk]), p4, hgr, ?_⟩
    refine ⟨⟨x4.chg.trans hc6 (fun k hk hlt => by simp at hk; have := x.fresh; omega), x4.at_.keep hc6 (fun k hk hm => by simp at hm; subst hm; exact hout4 hk), x4.fresh⟩, ⟨vs, vp, hn6, hst4.step hc6 (fun k hk _ => by simp at hk; simp [hk])⟩, hout4, x.fresh⟩
end Go.Proofs.YtiadjkjlifnopaaGreat.Tryz
/-! Manifests in plain words: what a state keeps; the edit that makes it; what is loaded. -/
set_option linter.unusedVariables false
namespace Go.Vc
open Go
structure POk (st : PSt) : Prop where
  segs : ∀ x ∈ st.segs, SegOk x ∧ x.sum < 4294967296
  pars : ∀ x ∈ st.pars, ParOk x ∧ x.sum < 4294967296
  ns : (st.segs.map numK).Nodup
  np : (st.pars.map gKey).Nodup
  ls : st.segs.length ≤ 60
  lp : st.pars.length ≤ 60
  next : 1 ≤ st.next ∧ st.next ≤ 1125899906842624
  seq : 1 ≤ st.seq ∧ st.seq ≤ 1125899906842624
  below : ∀ x ∈ st.segs, x.num < st.next
  belowP : ∀ x ∈ st.pars, x.group < st.next
  ss : st.segs.Pairwise fun x y => numK x ≤ numK y
  sp : st.pars.Pairwise fun x y => gKey x ≤ gKey y
/-- An edit that makes a state of none. -/
def wholeP (st : PSt) : EditM := { next := st.next, seq := st.seq, adds := st.segs, dels := [], pars := st.pars, drops := [] }
def p0 : PSt := ⟨[], [], 1, 1⟩
theorem p0_ok : POk p0 := ⟨by simp [p0], by simp [p0], by simp [p0], by simp [p0], by simp [p0], by simp [p0], by simp [p0], by simp [p0], by simp [p0], by simp [p0], by simp [p0], by simp [p0]⟩
theorem wholeP_ok {st : PSt} (h : POk st) : EditOk (wholeP st) := by
  refine ⟨?_, ?_, h.ls, by simp [wholeP], h.lp, by simp [wholeP], by simp [wholeP], by simp [wholeP], fun s hs => (h.segs s hs).1, fun s hs => (h.pars s hs).1⟩
  · have := h.next; unfold wholeP; dsimp only; omega
  · have := h.seq; unfold wholeP; dsimp only; omega
theorem wholeP_sums {st : PSt} (h : POk st) : Sums (wholeP st) := ⟨fun s hs => (h.segs s hs).2, fun s hs => (h.pars s hs).2⟩
theorem took_mem {α : Type} {key : α → Int} {ns : List Int} {L : List α} {x : α} (h : x ∈ (takeK key ns L).getD []) : x ∈ L := by
  cases ht : takeK key ns L with
  | none => rw [ht] at h; simp at h
  | some L' => rw [ht] at h; exact (takeK_sub ht).mem h
theorem puts_mem {α : Type} {key : α → Int} {xs M : List α} {x : α} (h : x ∈ ((putK key xs M).map (sortK key)).getD []) : x ∈ M ∨ x ∈ xs := by
  cases ht : putK key xs M with
  | none => rw [ht] at h; simp at h
  | some M' =>
    rw [ht] at h
    have h : x ∈ sortK key M' := h
    rw [(sortK_perm key M').mem_iff, (putK_eq ht).1] at h
    exact List.mem_append.1 h
theorem sortK_sorted {α : Type} (key : α → Int) (L : List α) : (sortK key L).Pairwise (fun x y => key x ≤ key y) :=
  (isM_sorted (le := leK key) (fun x y => by unfold leK; simp; omega) (fun x y z h1 h2 => by unfold leK at *; simp at *; omega) L).imp (fun h => by unfold leK at h; simpa using h)
theorem puts_sorted {α : Type} {key : α → Int} {xs M : List α} : (((putK key xs M).map (sortK key)).getD []).Pairwise (fun x y => key x ≤ key y) := by
  cases putK key xs M with
  | none => exact List.Pairwise.nil
  | some M' => exact sortK_sorted key M'
theorem later_le {was is_ : Int} (h : (laterM was is_).2 = true) : was ≤ (laterM was is_).1 := by
  unfold laterM at *
  split
  · omega
  · rename_i h0
    rw [if_neg h0] at h
    simpa using h
theorem later_most {was is_ m : Int} (h1 : was ≤ m) (h2 : is_ ≤ m) : (laterM was is_).1 ≤ m := by
  unfold laterM
  split
  · exact h1
  · exact h2
theorem applyP_ok {st st' : PSt} {e : EditM} {first : Bool} (h : POk st) (hs : Sums e) (ha : applyP st e first = some st') : POk st' := by
  unfold applyP at ha
  dsimp only at ha
  obtain ⟨hc, ha⟩ := ite_some ha
  simp only [Bool.and_eq_true] at hc
  obtain ⟨hB, ht1, hp1, ht2, hp2, hn, hq, hf⟩ := hc
  have hE := editB_ok.1 hB
  have hn1 := later_le hn
  have hn2 := later_most (was := st.next) (is_ := e.next) h.next.2 hE.next.2
  have hq1 := later_le hq
  have hq2 := later_most (was := st.seq) (is_ := e.seq) h.seq.2 hE.seq.2
  have h1 := h.next.1
  have h2 := h.seq.1
  unfold finePM at hf
  simp only [Bool.and_eq_true, decide_eq_true_eq, Bool.not_eq_true', List.any_eq_false] at hf
  obtain ⟨_, hl, hb1, hb2⟩ := hf
  have g1 : (((putK numK e.adds ((takeK numK e.dels st.segs).getD [])).map (sortK numK)).getD []).map numK |>.Nodup := puts_nodup (took_nodup h.ns)
  have g2 : (((putK gKey e.pars ((takeK gKey e.drops st.pars).getD [])).map (sortK gKey)).getD []).map gKey |>.Nodup := puts_nodup (took_nodup h.np)
  have o1 := puts_sorted (key := numK) (xs := e.adds) (M := (takeK numK e.dels st.segs).getD [])
  have o2 := puts_sorted (key := gKey) (xs := e.pars) (M := (takeK gKey e.drops st.pars).getD [])
  have m1 : ∀ x ∈ ((putK numK e.adds ((takeK numK e.dels st.segs).getD [])).map (sortK numK)).getD [], SegOk x ∧ x.sum < 4294967296 := fun x hx => by
    rcases puts_mem hx with h3 | h3
    · exact h.segs x (took_mem h3)
    · exact ⟨hE.adds1 x h3, hs.1 x h3⟩
  have m2 : ∀ x ∈ ((putK gKey e.pars ((takeK gKey e.drops st.pars).getD [])).map (sortK gKey)).getD [], ParOk x ∧ x.sum < 4294967296 := fun x hx => by
    rcases puts_mem hx with h3 | h3
    · exact h.pars x (took_mem h3)
    · exact ⟨hE.pars1 x h3, hs.2 x h3⟩
  generalize ((putK numK e.adds ((takeK numK e.dels st.segs).getD [])).map (sortK numK)).getD [] = S at *
  generalize ((putK gKey e.pars ((takeK gKey e.drops st.pars).getD [])).map (sortK gKey)).getD [] = Q at *
  generalize (laterM st.next e.next).1 = nx at *
  generalize (laterM st.seq e.seq).1 = sq at *
  subst ha
  refine ⟨m1, m2, g1, g2, by dsimp only; omega, by dsimp only; omega, by dsimp only; omega, by dsimp only; omega, fun x hx => ?_, fun x hx => ?_, o1, o2⟩
  · have := hb1 x hx
    simp at this
    exact this
  · have := hb2 x hx
    simp at this
    exact this
/-! ### What is loaded -/
def loadP : List EditM → Bool → PSt → Bool → PSt × Bool
  | [], _, st, ok => (st, ok)
  | e :: l, first, st, ok => match applyP st e first with
    | some st' => loadP l false st' ok
    | none => loadP l false st false
def loadM (b : List UInt8) : Option PSt :=
  if (loadP (scanE b).1 true p0 (scanE b).2.2).2 = true ∧ (scanE b).1 ≠ [] then some (loadP (scanE b).1 true p0 (scanE b).2.2).1 else none
theorem loadP_snoc : ∀ (l : List EditM) (e : EditM) (first : Bool) (st : PSt) (ok : Bool), loadP (l ++ [e]) first st ok = (match applyP (loadP l first st ok).1 e (first && l.isEmpty) with
    | some st' => (st', (loadP l first st ok).2)
    | none => ((loadP l first st ok).1, false))
  | [], e, first, st, ok => by
    rw [List.nil_append, loadP, loadP]
    simp only [List.isEmpty_nil, Bool.and_true]
    cases applyP st e first <;> rfl
  | a :: l, e, first, st, ok => by
    rw [List.cons_append, loadP, loadP]
    simp only [List.isEmpty_cons, Bool.and_false]
    cases applyP st a first with
    | none => simp only; rw [loadP_snoc l e false st false]; simp only [Bool.false_and]
    | some st' => simp only; rw [loadP_snoc l e false st' ok]; simp only [Bool.false_and]
theorem loadP_ok : ∀ {l : List EditM} {first : Bool} {st : PSt} {ok : Bool}, POk st → (∀ e ∈ l, Sums e) → POk (loadP l first st ok).1
  | [], first, st, ok, h, _ => h
  | e :: l, first, st, ok, h, hs => by
    rw [loadP]
    cases ha : applyP st e first with
    | none => exact loadP_ok h (fun x hx => hs x (by simp [hx]))
    | some st' => exact loadP_ok (applyP_ok h (hs e (by simp)) ha) (fun x hx => hs x (by simp [hx]))
end Go.Vc
/-! Manifests: Load. -/
set_option linter.unusedVariables false
namespace Go.Vc
open Go
theorem wholeM_plain (st : StM) : wholeM st.segs (st.pars.map (·.1)) st.next st.seq = wholeP st.plain := by
  unfold wholeM wholeP StM.plain
  rw [List.map_map]; rfl
theorem encE_whole {st : PSt} (h : POk st) : encE (wholeP st) = (sealM (textE (wholeP st)), 0) := by unfold encE; rw [if_pos (editB_ok.2 (wholeP_ok h))]
theorem plain_keys {st : StM} (h : POk st.plain) : (st.segs.map numK).Nodup ∧ (st.pars.map parKey).Nodup ∧ st.segs.length ≤ 60 ∧ st.pars.length ≤ 60 := by
  refine ⟨h.ns, ?_, h.ls, ?_⟩
  · have := h.np
    unfold StM.plain at this
    dsimp only at this
    rw [List.map_map] at this
    exact this
  · have := h.lp
    unfold StM.plain at this
    dsimp only at this
    rw [List.length_map] at this
    exact this
end Go.Vc
namespace Go.Proofs.YtiadjkjlifnopaaGreat.Tryz
open Go Go.Vc
theorem wholeP_I {st : PSt} (h : POk st) : EdI (wholeP st) := by
  have h1 := h.next
  have h2 := h.seq
  refine ⟨⟨?_, ?_⟩, ⟨?_, ?_⟩, fun s hs => ?_, fun q hq => ?_⟩
  · unfold wholeP; dsimp only; omega
  · unfold wholeP; dsimp only; omega
  · unfold wholeP; dsimp only; omega
  · unfold wholeP; dsimp only; omega
  · obtain ⟨⟨a, b, c, d⟩, e⟩ := h.segs s hs
    exact ⟨⟨by omega, by omega⟩, ⟨by omega, by omega⟩, ⟨by omega, by omega⟩, ⟨by omega, by omega⟩, e⟩
  · obtain ⟨a, e⟩ := h.pars q hq
    have b := a.group
    have c := a.size
    exact ⟨⟨by omega, by omega⟩, ⟨by omega, by omega⟩, e⟩
theorem EdI.sums {e : EditM} (h : EdI e) : Sums e := ⟨fun s hs => (h.adds s hs).sum, fun q hq => (h.pars q hq).sum⟩
/-- A state as a value. -/
def stF (S : List Nat) (st : StM) (v : Value) (w : World) : Prop := ∃ ua up, v = .agg #[ua, up, .int .i64 st.next, .int .i64 st.seq] ∧ ua.oneCell' = true ∧ up.oneCell' = true ∧ Firm S w (fun w => StRd w ua up st)
theorem stF_step {S S' : List Nat} {st : StM} {v : Value} {w w' : World} (h : stF S st v w) (hc : Chg S' w w') (hs : ∀ k ∈ S', k < w.heap.size → k ∈ S) : stF S st v w' := by
  obtain ⟨ua, up, h1, h2, h3, h4⟩ := h
  exact ⟨ua, up, h1, h2, h3, h4.step hc hs⟩
theorem loadNone_has {w0 w : World} {g : Nat} {s : FsM} {p : FsP} (x : FsO w0 w g s p) (hread : readM s manNm = none) :
    Has Go.Proofs.Tryz.prog 11 #[ptrV g] w (fun v w' => v = .tuple #[.pointer none, .int .i64 3] ∧ Chg [] w w') := by
  refine enter Go.Proofs.Tryz.func11 rfl rfl (by decide) rfl (e := [(0, ptrV g)]) ⟨rfl, trivial⟩ ?_
  unfold ptrV
  refine run ?_
  refine go T 9 rfl ?_
  refine o1 rfl ?_
  refine op_call rfl rfl rfl (readO_has x manNm) ?_
  rintro v1 w1 ⟨x1, hc1, h1⟩
  rw [hread] at h1
  obtain rfl : v1 = .tuple #[.slice none 0 0, .int .i64 3] := h1
  refine go T 11 rfl ?_
  refine neT rfl rfl rfl rfl (by omega) ?_
  refine go T 12 rfl ?_
  exact post2 (.inl rfl) rfl rfl rfl ⟨rfl, hc1⟩
set_option maxHeartbeats 8000000 in
theorem load_has {w0 w : World} {g : Nat} {s : FsM} {p : FsP} (x : FsO w0 w g s p) {b : List UInt8} (hread : readM s manNm = some b) (hb : b.length ≤ 4194304) (hcalls : s.calls < 1000000000 - 10) :
    Has Go.Proofs.Tryz.prog 11 #[ptrV g] w (fun v w' =>
      (loadM b = none → v = .tuple #[.pointer none, .int .i64 6] ∧ Chg [] w w') ∧
      ∀ q, loadM b = some q → POk q ∧
        (((scanE b).2.1 < b.length → ∃ p', Chg (p.fp g) w w' ∧ Grows w g p p' ∧ FsO w0 w' g (writeM s manNm neuNm (encE (wholeP q)).1).1 p' ∧
          ((writeM s manNm neuNm (encE (wholeP q)).1).2 ≠ 0 → v = .tuple #[.pointer none, .int .i64 (writeM s manNm neuNm (encE (wholeP q)).1).2]) ∧
          ((writeM s manNm neuNm (encE (wholeP q)).1).2 = 0 → ∃ gm st, v = .tuple #[.pointer (some ⟨gm, 0, none⟩), .int .i64 0] ∧ w.heap.size ≤ gm ∧ st.plain = q ∧ ManO w0 w' gm g (writeM s manNm neuNm (encE (wholeP q)).1).1 p' st false)) ∧
        (¬ (scanE b).2.1 < b.length → ∃ gm st, v = .tuple #[.pointer (some ⟨gm, 0, none⟩), .int .i64 0] ∧ w.heap.size ≤ gm ∧ st.plain = q ∧ Chg [] w w' ∧ ManO w0 w' gm g s p st false))) := by
  refine enter Go.Proofs.Tryz.func11 rfl rfl (by decide) rfl (e := [(0, ptrV g)]) ⟨rfl, trivial⟩ ?_
  unfold ptrV
  refine run ?_
  refine go T 9 rfl ?_
  refine o1 rfl ?_
  refine op_call rfl rfl rfl (readO_has x manNm) ?_
  rintro v1 w1 ⟨x1, hc1, h1⟩
  rw [hread] at h1
  obtain ⟨ub, rfl, hob, hfb⟩ : ∃ u, v1 = .tuple #[u, .int .i64 0] ∧ Own w1 5 1 u b.length (u8s b) ∧ ∀ h, u.ownBlock = some h → _ ≤ h := h1
  have hsb := hob.bytes
  obtain ⟨Ab, cb, rfl, _, _⟩ := hsb.form
  refine go T 11 rfl ?_
  refine neF rfl rfl rfl rfl (by omega) ?_
  refine go T 8 rfl ?_
  refine o1 rfl ?_
  refine op_call rfl rfl rfl (escan_has Ab b.length cb b w1 hsb hb) ?_
  rintro _ w2 ⟨u, E, rfl, hc2, hE, hEe⟩
  have x2 := x1.keep0 hc2
  have hc02 := hc1.trans' hc2
  have hsum : ∀ e ∈ (scanE b).1, Sums e := fun e he => by
    rw [← hEe] at he
    obtain ⟨xe, h1, rfl⟩ := List.mem_map.1 he
    exact (hE.each xe h1).2.1.sums
  have hq := loadP_ok (l := (scanE b).1) (first := true) (ok := (scanE b).2.2) p0_ok hsum
  have hlm : ∀ r, loadM b = r ↔ r = if (loadP (scanE b).1 true p0 (scanE b).2.2).2 = true ∧ (scanE b).1 ≠ [] then some (loadP (scanE b).1 true p0 (scanE b).2.2).1 else none := fun r => by unfold loadM; exact eq_comm
  generalize scanE b = sc at *
  obtain ⟨es, en, ok0⟩ := sc
  dsimp only at *
  have hEs := hE.own.readsK edL_len
  obtain ⟨Ae, ce, rfl, hel1, hel2⟩ := hEs.form
  unfold maxLen at hel2
  have hEone : ∀ xe ∈ E, ((edL xe).toArray.toList.all (·.oneCell')) = true := fun xe h => (hE.each xe h).1.oneA
  have hEI : ∀ xe ∈ E, EdI xe.e := fun xe h => (hE.each xe h).2.1
  refine go T 12 rfl ?_
  refine o1 rfl (op_build T rfl rfl rfl rfl rfl rfl ?_)
  refine o1 rfl (op_build T rfl rfl rfl rfl rfl rfl ?_)
  refine o1 rfl ?_
  refine op_box rfl rfl (fun gm w3 hs3 hc3 hgm => ?_)
  have hgm : Blk w3 gm 69 [.pointer (some ⟨g, 0, none⟩), .slice none 0 0, .slice none 0 0, .int .i64 1, .int .i64 1, .bool false] := hgm
  have hs3 : w2.heap.size ≤ gm := hs3
  have x3 := x2.keep0 hc3
  have hout : gm ∉ p.fp g := fun h => by have := x2.at_.lt gm h; omega
  have hgml := hgm.lt
  have hEf : ∀ xe ∈ E, Firm (gm :: p.fp g) w3 (fun w => EOwn w xe) := fun xe h w4 h4 => by
    have hc24 : Chg (p.fp g) w2 w4 := (hc3.mono (fun k hk _ => by cases hk)).trans h4 (fun k hk hlt => by
      rcases List.mem_cons.1 hk with rfl | hk
      · omega
      · exact hk)
    exact (hE.each xe h).1.keepB (hE.each xe h).2.2 hc24 (fun k hk => by have := x1.at_.lt k hk; omega)
  have hEs3 := hEs.keepR hc3
  have hst0 : Firm (gm :: p.fp g) w3 (fun w => StRd w (.slice none 0 0) (.slice none 0 0) ⟨[], [], 1, 1⟩) := fun w4 _ => ⟨SliceK.nil _ _ _, SliceK.nil _ _ _, fun q hq => by cases hq⟩
  have hz2 := hc02.size
  refine go T 12 rfl ?_
  refine W_loop (σ := Nat × StM × Bool) (fun t => [(4, .slice Ab b.length cb), (6, .slice Ae E.length ce), (7, .int .i64 (en : Nat)), (8, .bool t.2.2), (9, .pointer (some ⟨gm, 0, none⟩)), (32, .slice Ae E.length ce), (33, .int .i64 (E.length : Nat)), (34, .int .i64 (t.1 : Nat))])
    (fun t w' => t.1 ≤ E.length ∧ Chg [gm] w3 w' ∧ (t.2.1.plain, t.2.2) = loadP (es.take t.1) true p0 ok0 ∧ ∃ vs vp, Blk w' gm 69 [.pointer (some ⟨g, 0, none⟩), vs, vp, .int .i64 t.2.1.next, .int .i64 t.2.1.seq, .bool false] ∧ Firm (gm :: p.fp g) w' (fun w => StRd w vs vp t.2.1))
    (fun t => E.length - t.1) (0, ⟨[], [], 1, 1⟩, ok0) ⟨rfl, rfl, rfl, rfl, rfl, rfl, rfl, rfl, trivial⟩ ⟨Nat.zero_le _, Chg.refl _ _, rfl, _, _, hgm, hst0⟩ ?_
  rintro ⟨i, st, ok⟩ w4 ⟨hi, hc34, hlp, vs, vp, hgm4, hst⟩
  dsimp only at hi hlp hgm4 hst ⊢
  have hEl : E.length = es.length := by rw [← hEe, List.length_map]
  have hpok : POk st.plain := by
    have := loadP_ok (l := es.take i) (first := true) (ok := ok0) p0_ok (fun e he => hsum e (List.mem_of_mem_take he))
    rw [← hlp] at this
    exact this
  have hgm4l := hgm4.lt
  refine run ?_
  refine go T 2 rfl ?_
  refine ltS rfl rfl rfl rfl (fun hcmp => ?_) (fun hcmp => ?_)
  · have hlt : i < E.length := by omega
    have hx := List.getElem?_eq_getElem hlt
    have hmem : E[i] ∈ E := List.getElem_mem _
    have hes : es[i]? = some E[i].e := by rw [← hEe, List.getElem?_map, hx]; rfl
    have hIx := hEI _ hmem
    have hFx := (hEf _ hmem).step hc34 (fun k hk _ => by simp at hk; simp [hk])
    have hone := hEone _ hmem
    have hEs4 : SliceK 6 (RdL edL) w4 (.slice Ae E.length ce) E := hEs.keepR ((hc3.trans hc34 (S := []) (fun k hk hlt => by simp at hk; omega)))
    obtain ⟨ad, rfl, helx⟩ := hEs4.at hx
    generalize E[i] = xe at *
    obtain ⟨e, xa, xd, xp, xr, Q⟩ := xe
    dsimp only [edL] at *
    obtain ⟨X, rfl⟩ := parS_of Q (fun q hq => ⟨own_one (hFx.now.prd q hq).nums, own_one (hFx.now.prd q hq).sizes⟩)
    refine go T 11 rfl ?_
    refine o1 rfl (op_indexK T rfl rfl rfl rfl rfl (by omega) ?_)
    refine o1 rfl (op_loadE T helx rfl rfl rfl rfl rfl ?_)
    refine o1 rfl ?_
    refine op_alloc T rfl rfl (fun g11 w5 hs5 hc5 hg11 => ?_)
    have hg11 : Blk w5 g11 40 [.int .i64 0, .int .i64 0, .slice none 0 0, .slice none 0 0, .slice none 0 0, .slice none 0 0] := hg11
    have hs5 : w4.heap.size ≤ g11 := hs5
    refine go T 1 rfl ?_
    refine op0 rfl rfl ?_
    refine op_store_agg T rfl rfl rfl rfl rfl hone hg11 (by exact Nat.le_of_ble_eq_true rfl) (fun w6 hc6 hg11 _ => ?_)
    replace hg11 : Blk w6 g11 40 [.int .i64 e.next, .int .i64 e.seq, xa, xd, xp, xr] := hg11
    have hc46 : Chg [] w4 w6 := hc5.trans hc6 (fun k hk hlt => by simp at hk; omega)
    have hne : g11 ≠ gm := by omega
    have hgm6 := hgm4.keep0 hc46
    have hst6 := hst.step0 hc46
    have hF6 := hFx.step0 hc46
    obtain ⟨k1, k2, k3, k4⟩ := plain_keys hpok
    obtain ⟨Avs, cvs, rfl, _, _⟩ := hst6.now.segs.form
    obtain ⟨Avp, cvp, rfl, _, _⟩ := hst6.now.pars.form
    have hXe : X.map (·.1.p) = e.pars := by
      have := hF6.now.parsE
      dsimp only at this
      rw [← this, List.map_map]; rfl
    refine go T 8 rfl ?_
    refine Q.W_walkf 15 14 [gm] fol (by kernel_rfl) (by kernel_rfl) ?_
    refine Q.Walk.plain rfl rfl (by intro val w_ hR hp; exact op_move rfl rfl ⟨Chg.refl _ _, rfl⟩) ?_; dsimp only [List.nil_append, List.cons_append]
    refine Q.Walk.plain rfl rfl (by intro val w_ hR hp; exact op_move rfl rfl ⟨Chg.refl _ _, rfl⟩) ?_; dsimp only [List.nil_append, List.cons_append]
    refine Q.Walk.plain rfl rfl (by intro val w_ hR hp; exact op_nilCheck rfl rfl ⟨Chg.refl _ _, rfl⟩) ?_; dsimp only [List.nil_append, List.cons_append]
    refine Q.Walk.plain rfl rfl (by intro val w_ hR hp; exact op_fieldAddr T rfl rfl rfl rfl rfl rfl rfl rfl ⟨Chg.refl _ _, rfl⟩) ?_; dsimp only [List.nil_append, List.cons_append]
    refine Q.Walk.plainP (v := .agg #[.slice Avs st.segs.length cvs, .slice Avp st.pars.length cvp, .int .i64 st.next, .int .i64 st.seq]) rfl rfl rfl (by intro val w_ hR hp; exact op_load_agg T rfl rfl rfl rfl (hgm6.keep0 hR) (by exact Nat.le_of_ble_eq_true rfl) (by exact rfl) ⟨Chg.refl _ _, rfl⟩) ?_; dsimp only [List.nil_append, List.cons_append]
    refine Q.Walk.plain (v := .agg #[.int .i64 e.next, .int .i64 e.seq, xa, xd, xp, xr]) rfl rfl (by intro val w_ hR hp; exact op_load_agg T rfl rfl rfl rfl (hg11.keep hR (by simpa using hne)) (by exact Nat.le_of_ble_eq_true rfl) (by exact rfl) ⟨Chg.refl _ _, rfl⟩) ?_; dsimp only [List.nil_append, List.cons_append]
    refine Q.Walk.plain rfl rfl (by intro val w_ hR hp; exact op_move rfl rfl ⟨Chg.refl _ _, rfl⟩) ?_; dsimp only [List.nil_append, List.cons_append]
    refine Q.Walk.plain (v := .bool (decide (i = 0))) rfl rfl (by intro val w_ hR hp; exact op_eql rfl rfl rfl (fun h => ⟨Chg.refl _ _, by rw [decide_eq_true (by omega)]⟩) (fun h => ⟨Chg.refl _ _, by rw [decide_eq_false (by omega)]⟩)) ?_; dsimp only [List.nil_append, List.cons_append]
    refine Q.Walk.rel rfl (fun v w' => ∃ u, v = .tuple #[u, .bool (applyM st e X (decide (i = 0))).isSome] ∧ stF (gm :: p.fp g) ((applyM st e X (decide (i = 0))).getD st) u w') rfl (fun v a b h hab => let ⟨u, h1, h2⟩ := h; ⟨u, h1, stF_step h2 hab (fun k hk _ => by simp at hk; simp [hk])⟩) ?_ ?_
    · intro val w_ hR hp
      have hst_ := hst6.step hR (fun k hk _ => by simp at hk; simp [hk])
      have hF_ := hF6.step hR (fun k hk _ => by simp at hk; simp [hk])
      have hcall := apply_has st (.slice Avs st.segs.length cvs) (.slice Avp st.pars.length cvp) ⟨e, xa, xd, xp, xr, X.map (·.1)⟩ X (decide (i = 0)) w_ hst_.now.segs hst_.now.pars hIx hF_.now.rd rfl (by omega) (by omega) k1 k2
      refine op_call rfl rfl rfl hcall ?_
      rintro v w' ⟨h1, h2, h3⟩
      refine ⟨h1, ?_⟩
      cases hap : applyM st e X (decide (i = 0)) with
      | none => exact ⟨_, h2 hap, _, _, rfl, rfl, rfl, hst_.step0 h1⟩
      | some st' =>
        obtain ⟨ua, up, h4, h5, h6, h7, h8⟩ := h3 st' hap
        refine ⟨_, h4, ua, up, rfl, own_one h5, own_one h6, fun w1 hw1 => ?_⟩
        have hz4 := hc46.size
        have hz5 := hR.size
        have hin : ∀ k, w_.heap.size ≤ k → k ∉ gm :: p.fp g := fun k hk hm => by
          rcases List.mem_cons.1 hm with rfl | hm
          · omega
          · have := x1.at_.lt k hm; have := hc2.size; omega
        refine ⟨(own_firm h5 (fun k hk => hin k (h7 k hk)) w1 hw1).readsK segL_len, (own_firm h6 (fun k hk => hin k (h8 k hk)) w1 hw1).readsK parS_len, fun q hq => ?_⟩
        rcases applyM_pars hap hq with h | h
        · exact (hst_.step0 h1 w1 hw1).prd q h
        · exact ((hF_.step0 h1 w1 hw1).prd q.1 (List.mem_map.2 ⟨q, h, rfl⟩)).rd
    dsimp only [List.nil_append, List.cons_append]
    refine Q.Walk.rel rfl (fun v w' => ∃ u, v = .tuple #[u, .bool (applyM st e X (decide (i = 0))).isSome] ∧ stF (gm :: p.fp g) ((applyM st e X (decide (i = 0))).getD st) u w') rfl (fun v a b h hab => let ⟨u, h1, h2⟩ := h; ⟨u, h1, stF_step h2 hab (fun k hk _ => by simp at hk; simp [hk])⟩) ?_ ?_
    · intro val w_ hR hp
      exact op_move rfl rfl ⟨Chg.refl _ _, hp 8 rfl _ _ rfl rfl⟩
    dsimp only [List.nil_append, List.cons_append]
    refine Q.Walk.rel rfl (stF (gm :: p.fp g) ((applyM st e X (decide (i = 0))).getD st)) rfl (fun v a b h hab => stF_step h hab (fun k hk _ => by simp at hk; simp [hk])) ?_ ?_
    · intro val w_ hR hp
      obtain ⟨u, h1, h2⟩ := hp 9 rfl _ _ rfl rfl
      have h1 : val 9 = _ := h1
      exact op_extract rfl (show some (val 9) = _ by rw [h1]) rfl ⟨Chg.refl _ _, h2⟩
    dsimp only [List.nil_append, List.cons_append]
    refine Q.Walk.plain (v := .bool (applyM st e X (decide (i = 0))).isSome) rfl rfl ?_ ?_
    · intro val w_ hR hp
      obtain ⟨u, h1, h2⟩ := hp 9 rfl _ _ rfl rfl
      have h1 : val 9 = _ := h1
      exact op_extract rfl (show some (val 9) = _ by rw [h1]) rfl ⟨Chg.refl _ _, rfl⟩
    dsimp only [List.nil_append, List.cons_append]
    refine Q.Walk.plain rfl rfl (by intro val w_ hR hp; exact op_nilCheck rfl rfl ⟨Chg.refl _ _, rfl⟩) ?_; dsimp only [List.nil_append, List.cons_append]
    refine Q.Walk.plain rfl rfl (by intro val w_ hR hp; exact op_fieldAddr T rfl rfl rfl rfl rfl rfl rfl rfl ⟨Chg.refl _ _, rfl⟩) ?_; dsimp only [List.nil_append, List.cons_append]
    refine Q.Walk.turn rfl (fun _ w' => ∃ ua up, Blk w' gm 69 [.pointer (some ⟨g, 0, none⟩), ua, up, .int .i64 ((applyM st e X (decide (i = 0))).getD st).next, .int .i64 ((applyM st e X (decide (i = 0))).getD st).seq, .bool false] ∧ Firm (gm :: p.fp g) w' (fun w => StRd w ua up ((applyM st e X (decide (i = 0))).getD st))) rfl (fun _ _ _ h hab => let ⟨ua, up, h1, h2⟩ := h; ⟨ua, up, h1.keep0 hab, h2.step0 hab⟩) ?_ ?_
    · intro val w_ hR hp
      obtain ⟨ua, up, h1, h2, h3, h4⟩ := hp 10 rfl _ _ rfl rfl
      have h1 : val 10 = .agg #[ua, up, .int .i64 ((applyM st e X (decide (i = 0))).getD st).next, .int .i64 ((applyM st e X (decide (i = 0))).getD st).seq] := h1
      have hall : ([ua, up, Value.int .i64 ((applyM st e X (decide (i = 0))).getD st).next, Value.int .i64 ((applyM st e X (decide (i = 0))).getD st).seq].all (·.oneCell')) = true := by
        simp only [List.all_cons, List.all_nil, h2, h3, Bool.true_and]; rfl
      exact op_store_agg T rfl rfl (show some (val 10) = _ by rw [h1]) rfl rfl hall (hgm6.keep0 hR) (by exact Nat.le_of_ble_eq_true rfl) (fun w7 hc7 hn _ => ⟨hc7, ua, up, hn, h4.step hc7 (fun k hk _ => by simp at hk; simp [hk])⟩)
    refine Q.Walk.fin ?_
    intro val w7 hc67 _ hn
    obtain ⟨_, ua, up, hgm7, hst7⟩ := hn 14 (by omega) _ rfl rfl
    have hc37 : Chg [gm] w3 w7 := (hc34.trans' hc46).trans hc67 (fun k hk _ => hk)
    have hnext : (((applyM st e X (decide (i = 0))).getD st).plain, ok && (applyM st e X (decide (i = 0))).isSome) = loadP (es.take (i + 1)) true p0 ok0 := by
      have htk : es.take (i + 1) = es.take i ++ [e] := by rw [List.take_add_one, hes]; rfl
      have hem : (true && (es.take i).isEmpty) = decide (i = 0) := by
        rw [Bool.true_and]
        cases i with
        | zero => simp
        | succ i =>
          have : es.take (i + 1) ≠ [] := fun h => by
            have h5 := congrArg List.length h
            rw [List.length_take] at h5
            have := (List.getElem?_eq_some_iff.1 hes).1
            simp only [List.length_nil] at h5
            omega
          rw [show decide (i + 1 = 0) = false from by simp]
          simpa using this
      rw [htk, loadP_snoc, ← hlp, hem]
      dsimp only
      rw [← applyM_plain hXe]
      cases applyM st e X (decide (i = 0)) with
      | none => simp
      | some st' => simp
    generalize (applyM st e X (decide (i = 0))).isSome = sm at *
    generalize (applyM st e X (decide (i = 0))).getD st = st' at *
    refine WL_sub (e' := [(4, .slice Ab b.length cb), (6, .slice (some ad) E.length ce), (7, .int .i64 (en : Nat)), (8, .bool ok), (9, .pointer (some ⟨gm, 0, none⟩)), (32, .slice (some ad) E.length ce), (33, .int .i64 (E.length : Nat)), (34, .int .i64 (i : Nat)), (50, .bool sm)]) ⟨rfl, rfl, rfl, rfl, rfl, rfl, rfl, rfl, rfl, trivial⟩ ?_
    cases ok with
    | true =>
      cases sm with
      | true =>
        refine runL ?_
        refine go T 13 rfl ?_
        refine adI rfl rfl rfl rfl (by omega) (by omega) ?_
        refine go T 2 rfl ?_
        exact Round_n (i + 1, st', true) ⟨rfl, rfl, rfl, rfl, rfl, rfl, rfl, rfl, trivial⟩ ⟨by dsimp only; omega, hc37, hnext, ua, up, hgm7, hst7⟩ (by dsimp only; omega)
      | false =>
        refine runL ?_
        refine go T 13 rfl ?_
        refine adI rfl rfl rfl rfl (by omega) (by omega) ?_
        refine go T 2 rfl ?_
        exact Round_n (i + 1, st', false) ⟨rfl, rfl, rfl, rfl, rfl, rfl, rfl, rfl, trivial⟩ ⟨by dsimp only; omega, hc37, hnext, ua, up, hgm7, hst7⟩ (by dsimp only; omega)
    | false =>
      refine runL ?_
      refine go T 13 rfl ?_
      refine adI rfl rfl rfl rfl (by omega) (by omega) ?_
      refine go T 2 rfl ?_
      exact Round_n (i + 1, st', false) ⟨rfl, rfl, rfl, rfl, rfl, rfl, rfl, rfl, trivial⟩ ⟨by dsimp only; omega, hc37, hnext, ua, up, hgm7, hst7⟩ (by dsimp only; omega)
  · obtain rfl : i = E.length := by omega
    rw [hEl, List.take_length] at hlp
    have hlm2 : ∀ r, loadM b = r ↔ r = if ok = true ∧ es ≠ [] then some st.plain else none := fun r => by rw [hlm, ← hlp]
    have hend : Chg [] w w4 := (hc02.trans' hc3).trans hc34 (fun k hk hlt => by simp at hk; omega)
    have x4 : FsO w0 w4 g s p := ⟨x3.chg.trans hc34 (fun k hk hlt => by simp at hk; have := x.chg.size; omega), x3.at_.keep hc34 (fun k hk hm => by simp at hm; subst hm; exact hout hk), x3.fresh⟩
    cases ok with
    | false =>
      refine go T 6 rfl ?_
      refine rndX ?_
      refine go T 23 rfl ?_
      exact post2 (.inl rfl) rfl rfl rfl ⟨fun _ => ⟨rfl, hend⟩, fun q h => by rw [hlm2] at h; simp at h⟩
    | true =>
      by_cases hn : E.length = 0
      · have hes : es = [] := List.eq_nil_of_length_eq_zero (by omega)
        refine go T 6 rfl ?_
        refine rndX ?_
        refine go T 10 rfl ?_
        refine eqT rfl rfl rfl rfl (by omega) ?_
        refine go T 12 rfl ?_
        exact post2 (.inl rfl) rfl rfl rfl ⟨fun _ => ⟨rfl, hend⟩, fun q h => by rw [hlm2, hes] at h; simp at h⟩
      · have hes : es ≠ [] := fun h => by rw [h] at hEl; simp only [List.length_nil] at hEl; omega
        have hsome : loadM b = some st.plain := by rw [hlm2, if_pos ⟨rfl, hes⟩]
        rw [hsome]
        have hfr : w0.heap.size ≤ gm := by have := x.chg.size; omega
        have hman : ManO w0 w4 gm g s p st false := ⟨x4, ⟨vs, vp, hgm4, hst⟩, hout, hfr⟩
        by_cases hlt : en < b.length
        · obtain ⟨Avs, cvs, rfl, _, _⟩ := hst.now.segs.form
          obtain ⟨Avp, cvp, rfl, _, _⟩ := hst.now.pars.form
          have hQ : SliceK 5 (RdL parL) w4 (.slice Avp (st.pars.map (·.1)).length cvp) (st.pars.map (·.1)) := by rw [List.length_map]; exact par_reads hst.now.pars
          have hm' : ManB w4 gm g (.slice Avs st.segs.length cvs) (.slice Avp (st.pars.map (·.1)).length cvp) st.next st.seq false := by unfold ManB; rw [List.length_map]; exact hgm4
          have hlay := lay_has x4.at_ hm' hst.now.segs hQ (fun q hq => by obtain ⟨q', h1, rfl⟩ := List.mem_map.1 hq; exact hst.now.prd q' h1) (by rw [wholeM_plain]; exact wholeP_I hpok) hcalls
          refine go T 6 rfl ?_
          refine rndX ?_
          refine go T 10 rfl ?_
          refine eqF rfl rfl rfl rfl (by omega) ?_
          refine go T 12 rfl ?_
          refine ltT rfl rfl rfl rfl (by omega) ?_
          refine go T 6 rfl ?_
          refine o1 rfl ?_
          refine op_call rfl rfl rfl hlay ?_
          rintro v5 w5 ⟨_, hd⟩
          rw [wholeM_plain] at hd
          have hd := hd (by rw [encE_whole hpok])
          obtain ⟨hv5, hc5, p5, x5, hg5⟩ := fsDoneO x4 hd
          have hc45 : Chg (gm :: p.fp g) w4 w5 := hc5.mono (fun k hk _ => by simp [hk])
          have hc05 : Chg (p.fp g) w w5 := (hend.mono (fun k hk _ => by cases hk)).trans hc5 (fun k hk _ => hk)
          have hgr : Grows w g p p5 := fun k hk => (hg5 k hk).imp id (fun h => by have := hend.size; omega)
          have hm5 := hgm4.keep hc5 hout
          have hst5 := firm_grow hst hc45 hg5
          have hout5 : gm ∉ p5.fp g := fun h => by
            rcases hg5 gm h with h | h
            · exact hout h
            · omega
          generalize hr5 : writeM s manNm neuNm (encE (wholeP st.plain)).1 = r5 at *
          obtain ⟨s5, e5⟩ := r5
          dsimp only at hv5 x5
          subst hv5
          by_cases hz : e5 = 0
          · subst hz
            refine go T 6 rfl ?_
            refine neF rfl rfl rfl rfl (by omega) ?_
            refine go T 13 rfl ?_
            refine post2 (.inl rfl) rfl rfl rfl ⟨fun h => (by cases h), fun q h => ?_⟩
            injection h with h
            subst h
            rw [hr5]
            exact ⟨hpok, fun _ => ⟨p5, hc05, hgr, x5, fun h => absurd rfl h, fun _ => ⟨gm, st, rfl, by omega, rfl, x5, ⟨_, _, hm5, hst5⟩, hout5, hfr⟩⟩, fun h => absurd hlt h⟩
          · refine go T 6 rfl ?_
            refine neT rfl rfl rfl rfl (by omega) ?_
            refine go T 12 rfl ?_
            refine post2 (.inl rfl) rfl rfl rfl ⟨fun h => (by cases h), fun q h => ?_⟩
            injection h with h
            subst h
            rw [hr5]
            exact ⟨hpok, fun _ => ⟨p5, hc05, hgr, x5, fun _ => rfl, fun h => absurd h hz⟩, fun h => absurd hlt h⟩
        · refine go T 6 rfl ?_
          refine rndX ?_
          refine go T 10 rfl ?_
          refine eqF rfl rfl rfl rfl (by omega) ?_
          refine go T 12 rfl ?_
          refine ltF rfl rfl rfl rfl (by omega) ?_
          refine go T 13 rfl ?_
          refine post2 (.inl rfl) rfl rfl rfl ⟨fun h => (by cases h), fun q h => ?_⟩
          injection h with h
          subst h
          exact ⟨hpok, fun h => absurd h hlt, fun _ => ⟨gm, st, rfl, by omega, rfl, hend, hman⟩⟩
end Go.Proofs.YtiadjkjlifnopaaGreat.Tryz
/-! Files that have one file, in plain words; a file of other bytes takes its place. -/
set_option linter.unusedVariables false
namespace Go.Vc
open Go
/-! ### Files that have one file -/
structure OneAt (s : FsM) (room calls : Int) (nm : Nm) (b : List UInt8) (sy i : Nat) : Prop where
  room : s.room = room
  calls : s.calls = calls
  fail : s.fail = -1
  dir : s.dir = [(nm, i)]
  file : s.files[i]? = some ⟨b, sy⟩
/-- .. whose directory lasts. -/
structure Lasts (s : FsM) (nm : Nm) (i : Nat) : Prop where
  last : s.lasts = [(nm, i)]
  wait : s.waits = []
section
variable {s : FsM} {room calls : Int} {nm : Nm} {b c : List UInt8} {sy i : Nat}
theorem OneAt.lt (h : OneAt s room calls nm b sy i) : i < s.files.length := (List.getElem?_eq_some_iff.1 h.file).1
theorem OneAt.nofail (h : OneAt s room calls nm b sy i) : failsM s = false := by unfold failsM; rw [h.fail]; rfl
theorem OneAt.used (h : OneAt s room calls nm b sy i) : usedM s = b.length := by simp [usedM, h.dir, lenOf, h.file]
theorem OneAt.looks (h : OneAt s room calls nm b sy i) : Go.Vc.looks s.dir nm = some i := by rw [h.dir]; simp [Go.Vc.looks]
theorem OneAt.read (h : OneAt s room calls nm b sy i) : readM s nm = some b := by simp [readM, h.looks, h.file]
theorem one_made (n : Int) (hn : mayM nm = true) : (createM (newM n) nm).2 = 0 ∧ OneAt (createM (newM n) nm).1 (roomM n) 1 nm [] 0 0 := by
  have e : createM (newM n) nm = (changeM { callM (newM n) with files := [⟨[], 0⟩] } ⟨0, nm, [], some 0⟩, 0) := by
    unfold createM
    dsimp only
    rw [show failsM (newM n) = false from rfl, if_neg (by simp), hn, if_neg (by simp), if_neg (by simp [newM, callM])]
    rfl
  rw [e]
  exact ⟨rfl, rfl, rfl, rfl, rfl, rfl⟩
theorem one_append (h : OneAt s room calls nm b sy i) (hr : (b.length : Int) + c.length ≤ room) : (appendM s nm c).2 = 0 ∧ OneAt (appendM s nm c).1 room (calls + 1) nm (b ++ c) sy i ∧ (∀ j, Lasts s nm j → Lasts (appendM s nm c).1 nm j) := by
  have hu : usedM (callM s) = b.length := h.used
  have hl : Go.Vc.looks (callM s).dir nm = some i := h.looks
  have hrm : (callM s).room = room := h.room
  have e : appendM s nm c = ({ callM s with files := (callM s).files.modify i fun f => { f with b := f.b ++ c } }, 0) := by
    unfold appendM
    dsimp only
    rw [h.nofail, hl, hu]
    dsimp only
    rw [if_neg (by simp), if_neg (by rw [hrm]; omega)]
  rw [e]
  refine ⟨rfl, ⟨h.room, by show s.calls + 1 = _; rw [h.calls], by show max (s.fail - 1) (-1) = -1; rw [h.fail]; rfl, h.dir, ?_⟩, fun j hj => ⟨hj.last, hj.wait⟩⟩
  show (s.files.modify i _)[i]? = _
  rw [List.getElem?_modify, h.file]; simp
theorem one_sync (h : OneAt s room calls nm b sy i) : (syncM s nm).2 = 0 ∧ OneAt (syncM s nm).1 room (calls + 1) nm b b.length i ∧ (∀ j, Lasts s nm j → Lasts (syncM s nm).1 nm j) := by
  have hl : Go.Vc.looks (callM s).dir nm = some i := h.looks
  have e : syncM s nm = ({ callM s with files := (callM s).files.modify i fun f => { f with synced := f.b.length } }, 0) := by
    unfold syncM
    dsimp only
    rw [h.nofail, hl]
    dsimp only
    rw [if_neg (by simp)]
  rw [e]
  refine ⟨rfl, ⟨h.room, by show s.calls + 1 = _; rw [h.calls], by show max (s.fail - 1) (-1) = -1; rw [h.fail]; rfl, h.dir, ?_⟩, fun j hj => ⟨hj.last, hj.wait⟩⟩
  show (s.files.modify i _)[i]? = _
  rw [List.getElem?_modify, h.file]; simp
theorem one_syncDir (h : OneAt s room calls nm b sy i) : (syncDirM s).2 = 0 ∧ OneAt (syncDirM s).1 room (calls + 1) nm b sy i ∧ Lasts (syncDirM s).1 nm i := by
  have e : syncDirM s = ({ callM s with lasts := (callM s).dir, waits := [] }, 0) := by
    unfold syncDirM
    dsimp only
    rw [h.nofail, if_neg (by simp)]
  rw [e]
  exact ⟨rfl, ⟨h.room, by show s.calls + 1 = _; rw [h.calls], by show max (s.fail - 1) (-1) = -1; rw [h.fail]; rfl, h.dir, h.file⟩, h.dir, rfl⟩
theorem one_again (h : OneAt s room calls nm b sy i) (hn : mayM nm = true) : (createM s nm).2 = 0 ∧ OneAt (createM s nm).1 room (calls + 1) nm [] 0 s.files.length := by
  have e : createM s nm = (changeM { callM s with files := (callM s).files ++ [⟨[], 0⟩] } ⟨0, nm, [], some (callM s).files.length⟩, 0) := by
    unfold createM
    dsimp only
    rw [h.nofail, if_neg (by simp), hn, if_neg (by simp), if_neg (by simp [show (callM s).dir = [(nm, i)] from h.dir])]
  rw [e]
  refine ⟨rfl, h.room, by show s.calls + 1 = _; rw [h.calls], by show max (s.fail - 1) (-1) = -1; rw [h.fail]; rfl, ?_, ?_⟩
  · show ins s.dir nm s.files.length = _
    rw [h.dir]
    simp [ins, nm_lt_irrefl]
  · show (s.files ++ [⟨[], 0⟩])[s.files.length]? = _
    rw [List.getElem?_append_right (Nat.le_refl _), Nat.sub_self]; rfl
theorem one_crash (h : OneAt s room calls nm b sy i) (hl : Lasts s nm i) : OneAt (crashM s 0 []) room 0 nm (b.take sy) sy 0 := by
  have ed : crashDir s 0 = [(nm, i)] := by unfold crashDir; rw [hl.last]; rfl
  unfold crashM
  rw [ed]
  refine ⟨h.room, rfl, rfl, rfl, ?_⟩
  simp [crashFiles, h.file, cutM, tailOf]
/-- Files that have at most this one. -/
def AtMost (s : FsM) (nm : Nm) (u : Nat) : Prop := (s.dir = [] ∧ u = 0) ∨ ∃ i f, s.dir = [(nm, i)] ∧ s.files[i]? = some f ∧ f.b.length = u
theorem OneAt.most (h : OneAt s room calls nm b sy i) : AtMost s nm b.length := .inr ⟨i, _, h.dir, h.file, rfl⟩
/-- A file of other bytes takes its place. -/
theorem most_write {u : Nat} (h0 : AtMost s nm u) (hr0 : s.room = room) (hc0 : s.calls = calls) (hf0 : s.fail = -1) (bes : Nm) (hne : nm ≠ bes) (hm1 : mayM nm = true) (hm2 : mayM bes = true) (hr : (u : Int) + c.length ≤ room) : (writeM s nm bes c).2 = 0 ∧ OneAt (writeM s nm bes c).1 room (calls + 5) nm c c.length s.files.length ∧ Lasts (writeM s nm bes c).1 nm s.files.length := by
  have hfl : ∀ t : FsM, t.fail = -1 → failsM t = false := fun t e => by unfold failsM; rw [e]; rfl
  have hcf : ∀ t : FsM, t.fail = -1 → (callM t).fail = -1 := fun t e => by show max (t.fail - 1) (-1) = -1; rw [e]; rfl
  have hne' : ¬ bes = nm := fun e => hne e.symm
  have hfew : (callM s).dir.length < 150 := by
    show s.dir.length < 150
    rcases h0 with ⟨h, _⟩ | ⟨i, f, h, _⟩ <;> rw [h] <;> simp
  -- made
  have e1 : createM s bes = (changeM { callM s with files := (callM s).files ++ [⟨[], 0⟩] } ⟨0, bes, [], some (callM s).files.length⟩, 0) := by
    unfold createM
    dsimp only
    rw [hfl s hf0, if_neg (by simp), hm2, if_neg (by simp), if_neg (by simp; omega)]
  obtain ⟨s1, hs1⟩ : ∃ s1, s1 = changeM { callM s with files := (callM s).files ++ [⟨[], 0⟩] } ⟨0, bes, [], some (callM s).files.length⟩ := ⟨_, rfl⟩
  rw [← hs1] at e1
  have d1 : s1.dir = ins s.dir bes s.files.length := by rw [hs1]; rfl
  have f1 : s1.files = s.files ++ [⟨[], 0⟩] := by rw [hs1]; rfl
  have r1 : s1.room = room := by rw [hs1]; exact hr0
  have c1 : s1.calls = calls + 1 := by rw [hs1]; show s.calls + 1 = _; rw [hc0]
  have l1 : s1.fail = -1 := by rw [hs1]; exact hcf s hf0
  have fn1 : s1.files[s.files.length]? = some ⟨[], 0⟩ := by rw [f1, List.getElem?_append_right (Nat.le_refl _), Nat.sub_self]; rfl
  have u1 : usedM s1 = u := by
    rcases h0 with ⟨h, hu⟩ | ⟨i, f, h, hf, hu⟩
    · simp [usedM, d1, h, ins, lenOf, fn1, hu]
    · have fi1 : s1.files[i]? = some f := by rw [f1, List.getElem?_append_left (List.getElem?_eq_some_iff.1 hf).1]; exact hf
      rw [usedM, d1, h]
      simp only [ins, if_neg hne]
      split
      · simp [lenOf, fi1, fn1, hu]
      · simp [lenOf, fi1, fn1, hu]
  have k1 : Go.Vc.looks s1.dir bes = some s.files.length := by
    rw [d1]
    rcases h0 with ⟨h, hu⟩ | ⟨i, f, h, hf, hu⟩
    · simp [h, ins, Go.Vc.looks]
    · rw [h]
      simp only [ins, if_neg hne]
      split
      · simp [Go.Vc.looks]
      · simp [Go.Vc.looks, hne]
  have dd : doM s1.dir ⟨1, bes, nm, none⟩ = [(nm, s.files.length)] := by
    have k1' := k1
    unfold doM
    dsimp only
    rw [if_neg (by decide), if_pos rfl, k1']
    dsimp only
    rw [d1]
    rcases h0 with ⟨h, hu⟩ | ⟨i, f, h, hf, hu⟩
    · simp [h, ins, del]
    · rw [h]
      simp only [ins, if_neg hne]
      split
      · simp [del, ins, hne, nm_lt_irrefl]
      · simp [del, ins, hne, nm_lt_irrefl]
  clear hs1
  generalize s.files.length = n at *
  -- appended
  have e2 : appendM s1 bes c = ({ callM s1 with files := (callM s1).files.modify n fun f => { f with b := f.b ++ c } }, 0) := by
    unfold appendM
    dsimp only
    rw [hfl s1 l1, show Go.Vc.looks (callM s1).dir bes = some n from k1, show usedM (callM s1) = u from u1]
    dsimp only
    rw [if_neg (by simp), if_neg (by show ¬ s1.room - _ < _; rw [r1]; omega)]
  obtain ⟨s2, hs2⟩ : ∃ s2, s2 = { callM s1 with files := (callM s1).files.modify n fun f => { f with b := f.b ++ c } } := ⟨_, rfl⟩
  rw [← hs2] at e2
  have d2 : s2.dir = s1.dir := by rw [hs2]; rfl
  have r2 : s2.room = room := by rw [hs2]; exact r1
  have c2 : s2.calls = calls + 2 := by rw [hs2]; show s1.calls + 1 = _; rw [c1]; omega
  have l2 : s2.fail = -1 := by rw [hs2]; exact hcf s1 l1
  have fn2 : s2.files[n]? = some ⟨c, 0⟩ := by
    rw [hs2]
    show (s1.files.modify n _)[n]? = _
    rw [List.getElem?_modify, fn1]; simp
  clear hs2
  -- synced
  have e3 : syncM s2 bes = ({ callM s2 with files := (callM s2).files.modify n fun f => { f with synced := f.b.length } }, 0) := by
    unfold syncM
    dsimp only
    rw [hfl s2 l2, show Go.Vc.looks (callM s2).dir bes = some n from by show Go.Vc.looks s2.dir bes = _; rw [d2]; exact k1]
    dsimp only
    rw [if_neg (by simp)]
  obtain ⟨s3, hs3⟩ : ∃ s3, s3 = { callM s2 with files := (callM s2).files.modify n fun f => { f with synced := f.b.length } } := ⟨_, rfl⟩
  rw [← hs3] at e3
  have d3 : s3.dir = s1.dir := by rw [hs3]; exact d2
  have r3 : s3.room = room := by rw [hs3]; exact r2
  have c3 : s3.calls = calls + 3 := by rw [hs3]; show s2.calls + 1 = _; rw [c2]; omega
  have l3 : s3.fail = -1 := by rw [hs3]; exact hcf s2 l2
  have fn3 : s3.files[n]? = some ⟨c, c.length⟩ := by
    rw [hs3]
    show (s2.files.modify n _)[n]? = _
    rw [List.getElem?_modify, fn2]; simp
  clear hs3
  -- named
  have e4 : renameM s3 bes nm = (changeM (callM s3) ⟨1, bes, nm, none⟩, 0) := by
    unfold renameM
    dsimp only
    rw [hfl s3 l3, if_neg (by simp), show Go.Vc.looks (callM s3).dir bes = some n from by show Go.Vc.looks s3.dir bes = _; rw [d3]; exact k1, if_neg (by simp), hm1, if_neg (by simp)]
  obtain ⟨s4, hs4⟩ : ∃ s4, s4 = changeM (callM s3) ⟨1, bes, nm, none⟩ := ⟨_, rfl⟩
  rw [← hs4] at e4
  have o4 : OneAt s4 room (calls + 4) nm c c.length n := by
    refine ⟨by rw [hs4]; exact r3, by rw [hs4]; show s3.calls + 1 = _; rw [c3]; omega, by rw [hs4]; exact hcf s3 l3, ?_, by rw [hs4]; exact fn3⟩
    rw [hs4]
    show doM s3.dir ⟨1, bes, nm, none⟩ = _
    rw [d3]; exact dd
  obtain ⟨a5, o5, las5⟩ := one_syncDir o4
  have e : writeM s nm bes c = syncDirM s4 := by
    unfold writeM
    simp [writeG, writeK, e1, e2, e3, e4, a5]
    rw [← a5]
  rw [e]
  refine ⟨a5, ?_, las5⟩
  rw [show calls + 5 = calls + 4 + 1 from by omega]
  exact o5
end
end Go.Vc
/-! Manifests in plain words: what is laid is loaded. -/
set_option linter.unusedVariables false
namespace Go.Vc
open Go
def fileE (l : List EditM) : List UInt8 := l.flatMap fun e => sealM (textE e)
structure EdGood (e : EditM) : Prop where
  ok : EditOk e
  sums : Sums e
  len : (textE e).length ≤ 100000
theorem fileE_cons (e : EditM) (l : List EditM) : fileE (e :: l) = sealM (textE e) ++ fileE l := rfl
theorem fileE_snoc (l : List EditM) (e : EditM) : fileE (l ++ [e]) = fileE l ++ sealM (textE e) := by unfold fileE; rw [List.flatMap_append]; simp
theorem scanM_file : ∀ {l : List EditM}, (∀ e ∈ l, EdGood e) → scanM (fileE l) = (l.map textE, (fileE l).length, true)
  | [], _ => scanM_nil
  | e :: l, h => by
    have he := (h e (by simp)).len
    rw [fileE_cons, scanM_sealM _ _ (by omega), scanM_file (fun x hx => h x (by simp [hx]))]
    simp [sealM_length]
theorem edGo_file : ∀ {l : List EditM} (k : Nat) (cut : Bool), (∀ e ∈ l, EdGood e) → edGo (l.map textE) k cut = (l, k + (fileE l).length, cut)
  | [], k, cut, _ => rfl
  | e :: l, k, cut, h => by
    have he := h e (by simp)
    rw [List.map_cons, edGo, decE_textE he.ok he.sums, edGo_file _ _ (fun x hx => h x (by simp [hx])), fileE_cons, List.length_append]
    simp; omega
theorem scanE_file {l : List EditM} (h : ∀ e ∈ l, EdGood e) : scanE (fileE l) = (l, (fileE l).length, true) := by
  unfold scanE
  rw [scanM_file h, edGo_file _ _ h]
  simp
/-- A manifest's file says a state. -/
def FileOk (b : List UInt8) (st : PSt) : Prop := ∃ l, l ≠ [] ∧ (∀ e ∈ l, EdGood e) ∧ b = fileE l ∧ loadP l true p0 true = (st, true)
theorem FileOk.load {b : List UInt8} {st : PSt} (h : FileOk b st) : loadM b = some st ∧ (scanE b).2.1 = b.length := by
  obtain ⟨l, h1, h2, rfl, h4⟩ := h
  unfold loadM
  rw [scanE_file h2]
  dsimp only
  rw [h4]
  exact ⟨if_pos ⟨rfl, h1⟩, rfl⟩
theorem encE_good {e : EditM} (h : EdGood e) : encE e = (sealM (textE e), 0) := by unfold encE; rw [if_pos (editB_ok.2 h.ok)]
theorem FileOk.commit {b : List UInt8} {st st' : PSt} {e : EditM} (h : FileOk b st) (he : EdGood e) (ha : applyP st e false = some st') : FileOk (b ++ (encE e).1) st' := by
  obtain ⟨l, h1, h2, rfl, h4⟩ := h
  refine ⟨l ++ [e], by simp, fun x hx => ?_, ?_, ?_⟩
  · rcases List.mem_append.1 hx with hx | hx
    · exact h2 x hx
    · rw [List.mem_singleton.1 hx]; exact he
  · rw [fileE_snoc, encE_good he]
  · rw [loadP_snoc, h4]
    have : (true && l.isEmpty) = false := by simpa using h1
    rw [this, ha]
theorem putK_all {α : Type} {key : α → Int} : ∀ {xs L : List α}, ((L ++ xs).map key).Nodup → putK key xs L = some (L ++ xs)
  | [], L, _ => by simp [putK]
  | x :: xs, L, h => by
    rw [putK, if_neg, putK_all (by simpa using h)]
    · simp
    · intro hc
      obtain ⟨y, hy, hk⟩ := List.any_eq_true.1 hc
      simp at hk
      rw [List.map_append, List.nodup_append] at h
      exact h.2.2 _ (List.mem_map.2 ⟨y, hy, rfl⟩) _ (List.mem_map.2 ⟨x, by simp, rfl⟩) hk.symm
theorem sortK_id {α : Type} {key : α → Int} {L : List α} (hn : (L.map key).Nodup) (hs : L.Pairwise (fun x y => key x ≤ key y)) : sortK key L = L := (sortK_unique hn (List.Perm.refl _) hs).symm
theorem apply_whole {st : PSt} (h : POk st) : applyP p0 (wholeP st) true = some st := by
  have h1 : putK numK st.segs [] = some st.segs := by rw [putK_all (by simpa using h.ns)]; simp
  have h2 : putK gKey st.pars [] = some st.pars := by rw [putK_all (by simpa using h.np)]; simp
  have hn := h.next
  have hq := h.seq
  have l1 : laterM 1 st.next = (st.next, true) := by unfold laterM; rw [if_neg (by omega), decide_eq_true (by omega)]
  have l2 : laterM 1 st.seq = (st.seq, true) := by unfold laterM; rw [if_neg (by omega), decide_eq_true (by omega)]
  have hf : finePM st.segs st.pars st.next [] = true := by
    unfold finePM
    simp only [List.all_nil, Bool.true_and, Bool.and_eq_true, decide_eq_true_eq, Bool.not_eq_true', List.any_eq_false]
    have := h.ls
    have := h.lp
    refine ⟨by omega, fun x hx => ?_, fun x hx => ?_⟩
    · have := h.below x hx; simp; omega
    · have := h.belowP x hx; simp; omega
  have hB : editB (wholeP st) = true := editB_ok.2 (wholeP_ok h)
  unfold applyP
  rw [hB]
  unfold wholeP p0
  dsimp only [takeK, Option.getD]
  rw [h1, h2, l1, l2]
  dsimp only [Option.map, Option.isSome]
  simp only [sortK_id h.ns h.ss, sortK_id h.np h.sp, if_true, hf]
  simp
theorem flat_len {α : Type} {f : α → List UInt8} {m : Nat} : ∀ {l : List α}, (∀ x ∈ l, (f x).length ≤ m) → (l.flatMap f).length ≤ m * l.length
  | [], _ => by simp
  | x :: l, h => by
    have h1 := h x (by simp)
    have h2 := flat_len (l := l) (fun y hy => h y (by simp [hy]))
    rw [List.flatMap_cons, List.length_append, List.length_cons, Nat.mul_add]
    omega
theorem pairE_len : ∀ (ns zs : List Int), (∀ n ∈ ns, n < 18446744073709551616) → (∀ n ∈ zs, n < 18446744073709551616) → (pairE ns zs).length ≤ 20 * ns.length
  | [], zs, _, _ => by simp [pairE]
  | n :: ns, [], _, _ => by simp [pairE]
  | n :: ns, z :: zs, h1, h2 => by
    have i := pairE_len ns zs (fun x hx => h1 x (by simp [hx])) (fun x hx => h2 x (by simp [hx]))
    have k := numsE_len [n, z] (fun x hx => by
      simp only [List.mem_cons, List.not_mem_nil, or_false] at hx
      rcases hx with rfl | rfl
      · exact h1 _ (by simp)
      · exact h2 _ (by simp))
    rw [pairE, List.length_append, List.length_cons]
    simp only [List.length_cons, List.length_nil] at k
    omega
theorem textE_len {e : EditM} (h : EditOk e) (hs : Sums e) : (textE e).length ≤ 100000 := by
  have a := flat_len (f := segE) (m := 60) (l := e.adds) (fun s hx => by
    obtain ⟨⟨a, a'⟩, ⟨b, b'⟩, ⟨c, c'⟩, ⟨d, d'⟩⟩ := h.adds1 s hx
    have hsum := hs.1 s hx
    have ht : truthI s.sealed ≤ 1 := by unfold truthI; split <;> omega
    have := numsE_len [s.num, truthI s.sealed, s.group, s.member, s.size, s.sum] (fun x hx => by
      simp only [List.mem_cons, List.not_mem_nil, or_false] at hx
      rcases hx with rfl | rfl | rfl | rfl | rfl | rfl <;> omega)
    simpa [segE] using this)
  have b := flat_len (f := parE) (m := 100) (l := e.pars) (fun p hx => by
    have ho := h.pars1 p hx
    have hsum := hs.2 p hx
    have h1 := ho.group
    have h2 := ho.size
    have h3 := ho.len3
    have k1 := numsE_len [p.group, p.nums.length] (fun x hx => by
      simp only [List.mem_cons, List.not_mem_nil, or_false] at hx
      rcases hx with rfl | rfl <;> omega)
    have k2 := numsE_len [p.size, p.sum] (fun x hx => by
      simp only [List.mem_cons, List.not_mem_nil, or_false] at hx
      rcases hx with rfl | rfl <;> omega)
    have k3 := pairE_len p.nums p.sizes (fun n hn => by have := ho.nums n hn; omega) (fun n hn => by have := ho.sizes n hn; omega)
    simp only [List.length_cons, List.length_nil] at k1 k2
    unfold parE
    rw [List.length_append, List.length_append]
    omega)
  have c := numsE_len e.dels (fun n hn => by have := h.dels1 n hn; omega)
  have d := numsE_len e.drops (fun n hn => by have := h.drops1 n hn; omega)
  have h1 := h.next
  have h2 := h.seq
  have h3 := h.adds
  have h4 := h.dels
  have h5 := h.pars
  have h6 := h.drops
  have k1 := numsE_len [e.next, e.seq, e.adds.length] (fun x hx => by
    simp only [List.mem_cons, List.not_mem_nil, or_false] at hx
    rcases hx with rfl | rfl | rfl <;> omega)
  have one : ∀ n : Int, n < 18446744073709551616 → (numsE [n]).length ≤ 10 := fun n hn => by
    have := numsE_len [n] (fun x hx => by rw [List.mem_singleton.1 hx]; exact hn)
    simpa using this
  have k2 := one e.dels.length (by omega)
  have k3 := one e.pars.length (by omega)
  have k4 := one e.drops.length (by omega)
  simp only [List.length_cons, List.length_nil] at k1
  unfold textE
  simp only [List.length_append]
  omega
theorem edGood {e : EditM} (h : EditOk e) (hs : Sums e) : EdGood e := ⟨h, hs, textE_len h hs⟩
theorem FileOk.lay {st : PSt} (h : POk st) : FileOk (encE (wholeP st)).1 st := by
  have hg : EdGood (wholeP st) := edGood (wholeP_ok h) (wholeP_sums h)
  refine ⟨[wholeP st], by simp, fun x hx => by rw [List.mem_singleton.1 hx]; exact hg, ?_, ?_⟩
  · rw [encE_good hg]; simp [fileE]
  · rw [loadP, apply_whole h]; rfl
end Go.Vc
/-! Manifests: files that have a manifest alone; begun. -/
set_option linter.unusedVariables false
namespace Go.Vc
open Go
/-- Files that have just a manifest, which says q, all synced. -/
structure MSt (s : FsM) (calls : Int) (b : List UInt8) (i : Nat) (q : PSt) : Prop where
  one : OneAt s 1048576 calls manNm b b.length i
  last : Lasts s manNm i
  file : FileOk b q
  ok : POk q
theorem man0_whole : man0 = wholeP p0 := rfl
theorem encE_len {e : EditM} (h : EditOk e) (hs : Sums e) : (encE e).1.length ≤ 100012 := by
  rw [encE_good (edGood h hs)]
  have := textE_len h hs
  rw [sealM_length]; omega
theorem mst_new : (writeM (newM 1048576) manNm neuNm (encE man0).1).2 = 0 ∧ MSt (writeM (newM 1048576) manNm neuNm (encE man0).1).1 5 (encE man0).1 0 p0 := by
  have hl := encE_len (wholeP_ok p0_ok) (wholeP_sums p0_ok)
  rw [man0_whole]
  obtain ⟨h1, h2, h3⟩ := most_write (s := newM 1048576) (room := 1048576) (calls := 0) (nm := manNm) (c := (encE (wholeP p0)).1) (u := 0) (.inl ⟨rfl, rfl⟩) rfl rfl rfl neuNm (by decide) (by decide) (by decide) (by omega)
  exact ⟨h1, h2, h3, FileOk.lay p0_ok, p0_ok⟩
section
variable {s : FsM} {calls : Int} {b : List UInt8} {i : Nat} {q q' : PSt} {e : EditM}
theorem MSt.commit (h : MSt s calls b i q) (hg : EdGood e) (ha : applyP q e false = some q') (hr : (b.length : Int) + (encE e).1.length ≤ 1048576) : (commitF s (encE e).1).2 = 0 ∧ MSt (commitF s (encE e).1).1 (calls + 2) (b ++ (encE e).1) i q' := by
  obtain ⟨h1, h2, h3⟩ := one_append h.one hr
  obtain ⟨h4, h5, h6⟩ := one_sync h2
  unfold commitF
  rw [if_pos h1]
  refine ⟨h4, ?_, h6 _ (h3 _ h.last), h.file.commit hg ha, applyP_ok h.ok hg.sums ha⟩
  rw [show calls + 2 = calls + 1 + 1 from by omega]
  exact h5
theorem MSt.lay (h : MSt s calls b i q) (hr : b.length ≤ 900000) : (writeM s manNm neuNm (encE (wholeP q)).1).2 = 0 ∧ MSt (writeM s manNm neuNm (encE (wholeP q)).1).1 (calls + 5) (encE (wholeP q)).1 s.files.length q := by
  have hl := encE_len (wholeP_ok h.ok) (wholeP_sums h.ok)
  obtain ⟨h1, h2, h3⟩ := most_write (c := (encE (wholeP q)).1) h.one.most h.one.room h.one.calls h.one.fail neuNm (by decide) (by decide) (by decide) (by omega)
  exact ⟨h1, h2, h3, FileOk.lay h.ok, h.ok⟩
theorem MSt.crash (h : MSt s calls b i q) : MSt (crashM s 0 []) 0 b 0 q := by
  have h1 := one_crash h.one h.last
  rw [List.take_length] at h1
  exact ⟨h1, ⟨h1.dir, rfl⟩, h.file, h.ok⟩
end
end Go.Vc
namespace Go.Proofs.YtiadjkjlifnopaaGreat.Tryz
open Go Go.Vc
def stM0 : StM := ⟨[], [], 1, 1⟩
/-- Create where there are no files. -/
theorem createNew_has {w0 w : World} {g : Nat} {p : FsP} (x : FsO w0 w g (newM 1048576) p) :
    Has Go.Proofs.Tryz.prog 14 #[ptrV g] w (fun v w' => ∃ gm p' s, v = .tuple #[.pointer (some ⟨gm, 0, none⟩), .int .i64 0] ∧ Chg (p.fp g) w w' ∧ ManO w0 w' gm g s p' stM0 false ∧ MSt s 5 (encE man0).1 0 p0 ∧ Grows w g p p') :=
  (createMan_has x (by decide) rfl mst_new.1).mono fun v w' ⟨gm, p', h1, h2, h3, h4, h5, h6, h7⟩ => ⟨gm, p', _, h1, h2, ⟨h3, ⟨_, _, h5, fun w1 _ => ⟨SliceK.nil _ _ _, SliceK.nil _ _ _, fun q hq => by cases hq⟩⟩, h6, by have := x.chg.size; omega⟩, mst_new.2, h4⟩
/-- Load of a manifest that stands alone. -/
theorem loadOk_has {w0 w : World} {g : Nat} {s : FsM} {p : FsP} {b : List UInt8} {q : PSt} (x : FsO w0 w g s p) (hread : readM s manNm = some b) (hf : FileOk b q) (hb : b.length ≤ 4194304) (hcalls : s.calls < 1000000000 - 10) :
    Has Go.Proofs.Tryz.prog 11 #[ptrV g] w (fun v w' => ∃ gm st, v = .tuple #[.pointer (some ⟨gm, 0, none⟩), .int .i64 0] ∧ w.heap.size ≤ gm ∧ st.plain = q ∧ Chg [] w w' ∧ ManO w0 w' gm g s p st false) :=
  (load_has x hread hb hcalls).mono fun v w' ⟨_, h2⟩ => by
    obtain ⟨h3, h4⟩ := hf.load
    exact ((h2 q h3).2.2) (by omega)
/-- Commit of an edit that applies, where the files take it. -/
theorem commitOk_has {w0 w : World} {gm g : Nat} {s : FsM} {p : FsP} {st : StM} {q' : PSt} (x : ManO w0 w gm g s p st false) (hok : POk st.plain) {e : EditM} {xa xd xp xr : Value} {X : List ParS} (hI : EdI e) (hr : Firm (gm :: p.fp g) w (fun w => ERd w ⟨e, xa, xd, xp, xr, X.map (·.1)⟩)) (hap : applyP st.plain e false = some q') (hz : (commitF s (encE e).1).2 = 0) (hcalls : s.calls < 1000000000 - 10) :
    Has Go.Proofs.Tryz.prog 13 #[.pointer (some ⟨gm, 0, none⟩), .agg #[.int .i64 e.next, .int .i64 e.seq, xa, xd, xp, xr]] w (fun v w' => v = .int .i64 0 ∧ Chg (gm :: p.fp g) w w' ∧ ∃ p' st', Grows w g p p' ∧ st'.plain = q' ∧ ManO w0 w' gm g (commitF s (encE e).1).1 p' st' false) := by
  have hX : X.map (·.1.p) = e.pars := by
    have := hr.now.parsE
    dsimp only at this
    rw [← this, List.map_map]; rfl
  obtain ⟨k1, k2, k3, k4⟩ := plain_keys hok
  have h1 := applyM_plain (st := st) (first := false) hX
  rw [hap] at h1
  cases ha : applyM st e X false with
  | none => rw [ha] at h1; cases h1
  | some st' =>
    rw [ha] at h1
    injection h1 with h1
    refine (commit_has x hI hr k1 k2 (by omega) (by omega) ha hcalls).mono fun v w' ⟨h2, h3, p', h4, h5⟩ => ?_
    rw [hz] at h2 h5
    exact ⟨h2, h3, p', st', h4, h1, h5⟩
/-- A row of a literal reads so, whatever else turns. -/
theorem row_firm {α : Type} {f : α → List Value} {k : Nat} (hk : ∀ x, (f x).length = k) {w : World} {S : List Nat} {gb : Nat} {t : TypeId} {L : List α} (hb : Blk w gb t (L.flatMap f)) (hl : L.length ≤ 1000000) (hS : gb ∉ S) : Firm S w (fun w => SliceK k (RdL f) w (.slice (some ⟨gb, 0, none⟩) L.length L.length) L) := fun w1 h1 => by
  have h2 := hb.keep h1 hS
  refine (Own.mk h2 (Nat.le_refl _) (by unfold maxLen; omega) (by rw [rk_len hk]) (by rw [List.take_of_length_le (by rw [rk_len hk]; exact Nat.le_refl _)])).readsK hk
end Go.Proofs.YtiadjkjlifnopaaGreat.Tryz
/-! Manifests: begun. -/
set_option linter.unusedVariables false
namespace Go.Vc
open Go
def ed19 : EditM := { next := 5, seq := 0, adds := [⟨3, false, 0, 0, 0, 0⟩], dels := [], pars := [], drops := [] }
def p19 : PSt := ⟨[⟨3, false, 0, 0, 0, 0⟩], [], 5, 1⟩
theorem ed19_ok : EditOk ed19 := editB_ok.1 (by decide)
theorem ed19_sums : Sums ed19 := ⟨fun s hs => by simp [ed19] at hs; subst hs; decide, fun s hs => by simp [ed19] at hs⟩
theorem ed19_apply : applyP p0 ed19 false = some p19 := by rfl
theorem mst_19 {s : FsM} (h : MSt s 5 (encE man0).1 0 p0) : (commitF s (encE ed19).1).2 = 0 ∧ MSt (commitF s (encE ed19).1).1 7 ((encE man0).1 ++ (encE ed19).1) 0 p19 := by
  have h1 := encE_len (wholeP_ok p0_ok) (wholeP_sums p0_ok)
  have h2 := encE_len ed19_ok ed19_sums
  exact h.commit (edGood ed19_ok ed19_sums) ed19_apply (by rw [man0_whole]; omega)
end Go.Vc
namespace Go.Proofs.YtiadjkjlifnopaaGreat.Tryz
open Go Go.Vc
theorem ed19_I : EdI ed19 := ⟨⟨by decide, by decide⟩, ⟨by decide, by decide⟩, fun s hs => by simp [ed19] at hs; subst hs; exact ⟨⟨by decide, by decide⟩, ⟨by decide, by decide⟩, ⟨by decide, by decide⟩, ⟨by decide, by decide⟩, by decide⟩, fun q hq => by simp [ed19] at hq⟩
set_option maxHeartbeats 2000000 in
theorem begun19_has (w : World) : Has Go.Proofs.Tryz.prog 4 #[] w (fun v w' => Chg [] w w' ∧ v = .bool true) := by
  refine enter Go.Proofs.Tryz.func4 rfl rfl (by decide) rfl (e := []) trivial ?_
  refine run ?_
  refine go T 7 rfl ?_
  refine o1 rfl ?_
  refine op_call rfl rfl rfl (newO_has 1048576 w) ?_
  rintro _ w1 ⟨g, p1, rfl, x1⟩
  unfold ptrV
  refine go T 6 rfl ?_
  refine o1 rfl ?_
  refine op_call rfl rfl rfl (createNew_has x1) ?_
  rintro _ w2 ⟨gm, p2, s2, rfl, hc2, x2, m2, hg2⟩
  refine go T 11 rfl ?_
  refine neF rfl rfl rfl rfl (by omega) ?_
  refine go T 12 rfl ?_
  refine o1 rfl (op_build T rfl rfl rfl rfl rfl rfl ?_)
  refine o1 rfl ?_
  refine op_buildSlice T rfl rfl rfl rfl rfl rfl rfl (fun gb w3 hs3 hc3 hg3 => ?_)
  have hg3 : Blk w3 gb 44 ([(⟨3, false, 0, 0, 0, 0⟩ : SegM)].flatMap segL) := hg3
  have x3 := x2.keep0 hc3
  have hgb : gb ∉ gm :: p2.fp g := fun h => by
    rcases List.mem_cons.1 h with h | h
    · have := x2.lt; omega
    · have := x2.fs.at_.lt gb h; omega
  have hr := row_firm segL_len hg3 (by decide) hgb
  obtain ⟨hz, m4⟩ := mst_19 m2
  refine o1 rfl (op_build T rfl rfl rfl rfl rfl rfl ?_)
  refine o1 rfl ?_
  refine op_call rfl rfl rfl (commitOk_has x3 (show POk stM0.plain from p0_ok) (e := ed19) (xa := .slice (some ⟨gb, 0, none⟩) 1 1) (xd := .slice none 0 0) (xp := .slice none 0 0) (xr := .slice none 0 0) (X := []) ed19_I (fun w1 h1 => ⟨hr w1 h1, SliceOf.nil _ _, SliceK.nil _ _ _, rfl, fun q hq => (by cases hq), SliceOf.nil _ _⟩) ed19_apply hz (by rw [m2.one.calls]; decide)) ?_
  rintro _ w4 ⟨rfl, hc4, p4, st4, hg4, hp4, x4⟩
  generalize (commitF s2 (encE ed19).1).1 = s4 at *
  refine go T 6 rfl ?_
  refine o1 rfl ?_
  refine op_call rfl rfl rfl (crashO_has x4.fs 0 (SliceOf.nil _ _) (by rw [m4.one.calls]; decide)) ?_
  rintro _ w5 ⟨x5f, hc5, gc, pc, rfl, y5⟩
  have x5 := x4.keep0 hc5
  have m5 := m4.crash
  have hb5 : ((encE man0).1 ++ (encE ed19).1).length ≤ 4194304 := by
    have h1 := encE_len (wholeP_ok p0_ok) (wholeP_sums p0_ok)
    have h2 := encE_len ed19_ok ed19_sums
    rw [List.length_append, man0_whole]; omega
  unfold ptrV
  refine o1 rfl ?_
  refine op_call rfl rfl rfl (loadOk_has y5 m5.one.read m5.file hb5 (by rw [m5.one.calls]; decide)) ?_
  rintro _ w6 ⟨gn, st6, rfl, hs6, hp6, hc6, z6⟩
  have x6 := x5.keep0 hc6
  refine go T 10 rfl ?_
  refine o1 rfl ?_
  refine op_call rfl rfl rfl (createThere_has x6.fs _ m4.one.read) ?_
  rintro _ w7 ⟨hc7, rfl⟩
  have z7 := z6.keep0 hc7
  refine go T 9 rfl ?_
  refine o1 rfl ?_
  refine op_call rfl rfl rfl (newO_has 100 w7) ?_
  rintro _ w8 ⟨g8, p8, rfl, x8⟩
  have z8 := z7.keep0 x8.chg
  unfold ptrV
  refine o1 rfl ?_
  refine op_call rfl rfl rfl (loadNone_has x8 rfl) ?_
  rintro _ w9 ⟨rfl, hc9⟩
  have z9 := z8.keep0 hc9
  obtain ⟨vs, vp, hm9, hst9⟩ := z9.rows
  have hsg : st6.segs = p19.segs := by rw [← hp6]; rfl
  have hnx : st6.next = 5 := by rw [show st6.next = st6.plain.next from rfl, hp6]; rfl
  refine go T 10 rfl ?_
  refine eqT rfl rfl rfl rfl (by omega) ?_
  refine go T 2 rfl ?_
  refine eqT rfl rfl rfl rfl (by omega) ?_
  refine go T 3 rfl ?_
  refine o1 rfl ?_
  refine op_call rfl rfl rfl (segsM_has hm9 st6.segs hst9.now.segs (by rw [hsg]; decide)) ?_
  rintro v10 w10 ⟨hc10, ho10, _⟩
  obtain ⟨A, c, rfl, _, _⟩ := ho10.form
  rw [show st6.segs.length = 1 from by rw [hsg]; rfl]
  have hm10 := Blk.keep0 hm9 hc10
  refine go T 1 rfl ?_
  refine eqT rfl rfl rfl rfl (by omega) ?_
  refine go T 3 rfl ?_
  refine o1 rfl ?_
  refine op_call rfl rfl rfl (nextM_has hm10) ?_
  rintro _ _ ⟨rfl, rfl⟩
  rw [hnx]
  refine eqT rfl rfl rfl rfl (by omega) ?_
  refine go T 3 rfl ?_
  refine eqT rfl rfl rfl rfl (by omega) ?_
  refine go T 3 rfl ?_
  refine eqT rfl rfl rfl rfl (by omega) ?_
  refine go T 5 rfl ?_
  exact post1 (.inl rfl) rfl rfl ⟨(((x6.fs.chg.trans' hc7).trans' x8.chg).trans' hc9).trans' hc10, rfl⟩
end Go.Proofs.YtiadjkjlifnopaaGreat.Tryz
/-! Names of files: numbers below a hundred. -/
set_option linter.unusedVariables false
namespace Go.Vc
open Go
def dig2 (n : Nat) : List UInt8 := if n < 10 then [UInt8.ofNat (48 + n)] else [UInt8.ofNat (48 + n / 10), UInt8.ofNat (48 + n % 10)]
def decs : List UInt8 := [48, 48, 48, 49, 48, 50, 48, 51, 48, 52, 48, 53, 48, 54, 48, 55, 48, 56, 48, 57, 49, 48, 49, 49, 49, 50, 49, 51, 49, 52, 49, 53, 49, 54, 49, 55, 49, 56, 49, 57, 50, 48, 50, 49, 50, 50, 50, 51, 50, 52, 50, 53, 50, 54, 50, 55, 50, 56, 50, 57, 51, 48, 51, 49, 51, 50, 51, 51, 51, 52, 51, 53, 51, 54, 51, 55, 51, 56, 51, 57, 52, 48, 52, 49, 52, 50, 52, 51, 52, 52, 52, 53, 52, 54, 52, 55, 52, 56, 52, 57, 53, 48, 53, 49, 53, 50, 53, 51, 53, 52, 53, 53, 53, 54, 53, 55, 53, 56, 53, 57, 54, 48, 54, 49, 54, 50, 54, 51, 54, 52, 54, 53, 54, 54, 54, 55, 54, 56, 54, 57, 55, 48, 55, 49, 55, 50, 55, 51, 55, 52, 55, 53, 55, 54, 55, 55, 55, 56, 55, 57, 56, 48, 56, 49, 56, 50, 56, 51, 56, 52, 56, 53, 56, 54, 56, 55, 56, 56, 56, 57, 57, 48, 57, 49, 57, 50, 57, 51, 57, 52, 57, 53, 57, 54, 57, 55, 57, 56, 57, 57]
theorem decs_len : decs.length = 200 := by decide +kernel
theorem decs_at {n : Nat} (hn : n < 100) (h : ¬ n < 10) : (decs.take (2 * n + 2)).drop (2 * n) = dig2 n := by
  have key : ∀ a : Fin 100, ¬ a.val < 10 → (decs.take (2 * a.val + 2)).drop (2 * a.val) = dig2 a.val := by decide +kernel
  exact key ⟨n, hn⟩ h
def endRaw : List UInt8 := [46, 114, 97, 119]
def endSeg : List UInt8 := [46, 115, 101, 103]
def endPar : List UInt8 := [46, 112, 97, 114]
theorem dig2_len (n : Nat) : 1 ≤ (dig2 n).length ∧ (dig2 n).length ≤ 2 := by unfold dig2; split <;> simp
theorem dig2_inj {n m : Nat} (hn : n < 100) (hm : m < 100) (h : dig2 n = dig2 m) : n = m := by
  have key : ∀ a b : Fin 100, dig2 a = dig2 b → a = b := by decide +kernel
  have := key ⟨n, hn⟩ ⟨m, hm⟩ h
  injection this
end Go.Vc
namespace Go.Proofs.YtiadjkjlifnopaaGreat.Tryz
open Go Go.Vc
end Go.Proofs.YtiadjkjlifnopaaGreat.Tryz
/-! Strings: Index, Contains, DeleteFunc. -/
set_option linter.unusedVariables false
namespace Go.Vc
open Go
/-- A string as one cell. -/
def strL (x : Nm) : List Value := [.string (str x)]
theorem strL_len (x : Nm) : (strL x).length = 1 := rfl
theorem strL_flat : ∀ L : List Nm, L.flatMap strL = L.map fun x => .string (str x)
  | [] => rfl
  | x :: L => by rw [List.flatMap_cons, strL_flat L]; rfl
theorem str_reads {w : World} {t : TypeId} {v : Value} {L : List Nm} (h : Own w t 1 v L.length (L.flatMap strL)) : SliceOf RstrL w v L := by
  rw [strL_flat] at h
  refine h.reads rfl (fun i x u hx hu => ?_)
  rw [List.getElem?_map, hx] at hu
  injection hu with hu
  exact hu.symm
theorem idxM_pre {α : Type} {p : α → Bool} : ∀ (l : List α) (k : Nat), idxM p l = (k : Int) → ∀ x ∈ l.take k, p x = false
  | [], k, h, x, hx => by simp at hx
  | a :: l, k, h, x, hx => by
    unfold idxM at h
    split at h
    · obtain rfl : k = 0 := by omega
      simp at hx
    · rename_i h1
      split at h
      · omega
      · obtain ⟨k', rfl⟩ : ∃ k', k = k' + 1 := ⟨k - 1, by omega⟩
        rw [List.take_succ_cons] at hx
        rcases List.mem_cons.1 hx with rfl | hx
        · simpa using h1
        · exact idxM_pre l k' (by omega) x hx
theorem rk_take {α : Type} {f : α → List Value} {k : Nat} (hf : ∀ x, (f x).length = k) (R : List α) {i : Nat} (hi : i ≤ R.length) (ys : List Value) : (R.flatMap f ++ ys).take (i * k) = (R.take i).flatMap f := by
  have h1 : R.flatMap f ++ ys = (R.take i).flatMap f ++ ((R.drop i).flatMap f ++ ys) := by
    rw [← List.append_assoc, ← List.flatMap_append, List.take_append_drop]
  rw [h1]
  refine List.take_left' ?_
  rw [rk_len hf, List.length_take, Nat.min_eq_left hi]
theorem strL_set (R : List Nm) (rest : List Value) (i : Nat) (y : Nm) (hi : i < R.length) : (R.flatMap strL ++ rest).set i (.string (str y)) = (R.set i y).flatMap strL ++ rest := by
  rw [strL_flat, strL_flat, List.set_append_left _ _ (by rw [List.length_map]; exact hi), List.map_set]
end Go.Vc
namespace Go.Proofs.YtiadjkjlifnopaaGreat.Tryz
open Go Go.Vc
end Go.Proofs.YtiadjkjlifnopaaGreat.Tryz
/-! Manifests: File, Old. -/
set_option linter.unusedVariables false
namespace Go.Vc
open Go
def fileNm (s : SegM) : Nm := dig2 s.num.toNat ++ (if s.sealed = true then endSeg else endRaw)
def parNm (q : ParM) : Nm := dig2 q.group.toNat ++ endPar
def neededM (S : List SegM) (Q : List ParM) : List Nm := [[77, 65, 78, 73, 70, 69, 83, 84]] ++ S.map fileNm ++ Q.map parNm
def oldM (d : Dir) (S : List SegM) (Q : List ParM) : List Nm := (d.map (·.1)).filter fun n => !(neededM S Q).any fun x => decide (n = x)
theorem strL_one (x : Nm) : ∀ u ∈ strL x, u.oneCell' = true := fun u hu => by
  rw [show u = _ from List.mem_singleton.1 hu]; rfl
end Go.Vc
namespace Go.Proofs.YtiadjkjlifnopaaGreat.Tryz
open Go Go.Vc
end Go.Proofs.YtiadjkjlifnopaaGreat.Tryz
/-! Ways that meet again, in a walk by evaluation. -/
set_option linter.unusedVariables false
namespace Go.Vc
open Go
section
variable {P : Program} {N : Nat} {Q : Post} {e : Env} {w : World}
/-- The ways through a piece of code (an if) meet behind it. -/
theorem meetC {σ : Type} (E : σ → Env) (M : σ → World → Prop) {c : Code} {ks : List Fr} (h : Run P N (Meet E M (PostOf P N Q ks)) (.code c []) e w) (hk : ∀ s w, M s w → Run P N Q (.out .normal ks) (E s) w) : Run P N Q (.code c ks) e w := W_meet E M h hk
theorem meetN {σ : Type} {E : σ → Env} {M : σ → World → Prop} (s : σ) (hs : SubL e (E s)) (hm : M s w) : Run P N (Meet E M Q) (.out .normal []) e w := Meet_n s hs hm
end
end Go.Vc
/-! Manifests of the call's own: Rewrite, Segs, Next, Old. -/
set_option linter.unusedVariables false
namespace Go.Proofs.YtiadjkjlifnopaaGreat.Tryz
open Go Go.Vc
section
variable {w0 w : World} {gm g : Nat} {s : FsM} {p : FsP} {st : StM}
theorem segsO_has (x : ManO w0 w gm g s p st false) (hb : st.segs.length ≤ 1000000) : Has Go.Proofs.Tryz.prog 16 #[.pointer (some ⟨gm, 0, none⟩)] w (fun v w' => Chg [] w w' ∧ Own w' 44 6 v st.segs.length (st.segs.flatMap segL) ∧ ∀ h, v.ownBlock = some h → w.heap.size ≤ h) := by
  obtain ⟨vs, vp, hm, hst⟩ := x.rows
  exact segsM_has hm st.segs hst.now.segs hb
theorem nextO_has (x : ManO w0 w gm g s p st false) : Has Go.Proofs.Tryz.prog 12 #[.pointer (some ⟨gm, 0, none⟩)] w (fun v w' => w' = w ∧ v = .int .i64 st.next) := by
  obtain ⟨vs, vp, hm, hst⟩ := x.rows
  exact nextM_has hm
end
end Go.Proofs.YtiadjkjlifnopaaGreat.Tryz
/-! Manifests: ManifestAny, in plain words. -/
set_option linter.unusedVariables false
namespace Go.Vc
open Go
def anyE (n : Int) : EditM := { next := n + 1, seq := 0, adds := [], dels := [], pars := [], drops := [] }
theorem anyE_ok {n : Int} (h0 : 1 ≤ n) (hn : n < 1125899906842624) : EditOk (anyE n) := by
  unfold anyE
  exact ⟨by dsimp only; omega, by dsimp only; omega, by simp, by simp, by simp, by simp, by simp, by simp, by simp, by simp⟩
theorem anyE_sums (n : Int) : Sums (anyE n) := ⟨fun s hs => (by cases hs), fun q hq => (by cases hq)⟩
theorem anyE_apply {q : PSt} (h : POk q) (hn : q.next < 1125899906842624) : applyP q (anyE q.next) false = some { q with next := q.next + 1 } := by
  have hB : editB (anyE q.next) = true := editB_ok.2 (anyE_ok h.next.1 hn)
  have hf : finePM q.segs q.pars (q.next + 1) [] = true := by
    unfold finePM
    simp only [List.all_nil, Bool.true_and, Bool.and_eq_true, decide_eq_true_eq, Bool.not_eq_true', List.any_eq_false]
    have := h.ls
    have := h.lp
    refine ⟨by omega, fun x hx => ?_, fun x hx => ?_⟩
    · have := h.below x hx; simp; omega
    · have := h.belowP x hx; simp; omega
  have h1 := h.next.1
  have l1 : laterM q.next (q.next + 1) = (q.next + 1, true) := by unfold laterM; rw [if_neg (by omega), decide_eq_true (by omega)]
  have l2 : laterM q.seq 0 = (q.seq, true) := by unfold laterM; rw [if_pos rfl]
  unfold applyP
  rw [hB]
  unfold anyE
  dsimp only [takeK, putK, Option.getD]
  rw [l1, l2]
  dsimp only [Option.map, Option.isSome]
  simp only [sortK_id h.ns h.ss, sortK_id h.np h.sp]
  show (if (true && (true && (true && (true && (true && (true && (true && finePM q.segs q.pars (q.next + 1) []))))))) = true then some _ else none) = _
  rw [hf]
  rfl
/-- Append and sync where nothing fails and the manifest stands alone. -/
theorem one_commit {s : FsM} {room calls : Int} {b c : List UInt8} {sy i : Nat} (h : OneAt s room calls manNm b sy i) (hr : (b.length : Int) + c.length ≤ room) : (commitF s c).2 = 0 := by
  obtain ⟨h1, h2, _⟩ := one_append h hr
  obtain ⟨h3, _, _⟩ := one_sync h2
  unfold commitF
  rw [if_pos h1]
  exact h3
end Go.Vc
/-! Short: the front of a row of bytes. -/
set_option linter.unusedVariables false
namespace Go.Proofs.YtiadjkjlifnopaaGreat.Tryz
open Go Go.Vc
/-- The front of a row. -/
theorem shortB_has (A : Option Addr) (n c : Nat) (l : List UInt8) (k : Nat) (w : World) (hl : SliceOf Ru8 w (.slice A n c) l) (hk : k < 1000000000) :
    Has Go.Proofs.Tryz.prog 8 #[.slice A n c, .int .i64 (k : Int)] w (fun v w' => w' = w ∧ v = .slice A (l.take k).length c) := by
  obtain ⟨rfl, hl1, hl2⟩ := hl.len
  unfold maxLen at hl2
  refine enter Go.Proofs.Tryz.func8 rfl rfl (by decide) rfl (e := [(0, .slice A l.length c), (1, .int .i64 (k : Int))]) ⟨rfl, rfl, trivial⟩ ?_
  by_cases h : k < l.length
  · refine run ?_
    refine go T 11 rfl ?_
    refine gtT rfl rfl rfl rfl (by omega) ?_
    refine go T 7 rfl ?_
    refine o1 rfl ?_
    refine op_slice_to T (h' := k) (k := .i64) rfl rfl rfl rfl rfl (by omega) ?_
    refine go T 5 rfl ?_
    exact post1 (.inl rfl) rfl rfl ⟨rfl, by rw [List.length_take, Nat.min_eq_left (by omega)]⟩
  · rw [List.take_of_length_le (by omega)]
    refine run ?_
    refine go T 11 rfl ?_
    refine gtF rfl rfl rfl rfl (by omega) ?_
    refine go T 12 rfl ?_
    exact post1 (.inl rfl) rfl rfl ⟨rfl, rfl⟩
end Go.Proofs.YtiadjkjlifnopaaGreat.Tryz
/-! Manifests: ManifestAny. -/
set_option linter.unusedVariables false
namespace Go.Proofs.YtiadjkjlifnopaaGreat.Tryz
open Go Go.Vc
theorem anyE_I {n : Int} (h0 : 1 ≤ n) (hn : n < 1125899906842624) : EdI (anyE n) := by
  have z : I64 0 := ⟨by decide, by decide⟩
  refine ⟨⟨?_, ?_⟩, z, fun s hs => (by cases hs), fun q hq => (by cases hq)⟩
  · show -9223372036854775808 ≤ n + 1; omega
  · show n + 1 ≤ 9223372036854775807; omega
set_option maxHeartbeats 4000000 in
theorem manifestAny_has (A : Option Addr) (n c : Nat) (l : List UInt8) (w : World) (hl : SliceOf Ru8 w (.slice A n c) l) : Has Go.Proofs.Tryz.prog 3 #[.slice A n c] w (fun v w' => Chg [] w w' ∧ v = .bool true) := by
  obtain ⟨rfl, hl1, hl2⟩ := hl.len
  refine enter Go.Proofs.Tryz.func3 rfl rfl (by decide) rfl (e := [(0, .slice A l.length c)]) ⟨rfl, trivial⟩ ?_
  refine run ?_
  refine go T 7 rfl ?_
  refine o1 rfl ?_
  refine op_call rfl rfl rfl (begun19_has w) ?_
  rintro _ w1 ⟨hc1, rfl⟩
  refine go T 15 rfl ?_
  refine o1 rfl ?_
  refine op_call rfl rfl rfl (newO_has 1048576 w1) ?_
  rintro _ w2 ⟨g, p2, rfl, x2⟩
  replace x2 := x2.base hc1
  unfold ptrV
  obtain ⟨ha, o3⟩ := one_made 1048576 (nm := manNm) (by decide)
  rw [show roomM 1048576 = 1048576 from rfl] at o3
  refine go T 6 rfl ?_
  refine o1 rfl ?_
  refine op_call rfl rfl rfl (createO_has x2 manNm (by decide) (by decide)) ?_
  rintro _ w3 ⟨rfl, p3, x3⟩
  rw [ha]
  generalize (createM (newM 1048576) manNm).1 = s3 at *
  refine go T 6 rfl ?_
  refine o1 rfl ?_
  refine op_call rfl rfl rfl (shortB_has A l.length c l 200 w3 (SliceOf.kept Ru8.kept _ _ _ _ x3.chg hl) (by decide)) ?_
  rintro _ w3 ⟨rfl, rfl⟩
  have hb200 : (l.take 200).length ≤ 200 := by rw [List.length_take]; omega
  have hfirm : Firm (p3.fp g) w3 (fun w => SliceOf Ru8 w (.slice A (l.take 200).length c) (l.take 200)) :=
    Firm.old (fun a b h h' => SliceOf.kept Ru8.kept _ _ _ _ h h') (hl.take (by rw [List.length_take])) x3.chg x3.fresh
  generalize l.take 200 = b at *
  obtain ⟨hb, o4, _⟩ := one_append (c := b) o3 (by simp; omega)
  rw [List.nil_append] at o4
  refine o1 rfl ?_
  refine op_call rfl rfl rfl (appendO_has x3 manNm hfirm (by omega) (by rw [o3.calls]; decide)) ?_
  rintro _ w4 ⟨rfl, p4, x4⟩
  rw [hb]
  generalize (appendM s3 manNm b).1 = s4 at *
  obtain ⟨hd, o5, _⟩ := one_sync o4
  refine go T 5 rfl ?_
  refine o1 rfl ?_
  refine op_call rfl rfl rfl (syncO_has x4 manNm (by rw [o4.calls]; decide)) ?_
  rintro _ w5 ⟨rfl, p5, x5⟩
  rw [hd]
  generalize (syncM s4 manNm).1 = s5 at *
  obtain ⟨he, o6, las6⟩ := one_syncDir o5
  refine go T 5 rfl ?_
  refine o1 rfl ?_
  refine op_call rfl rfl rfl (syncDirO_has x5 (by rw [o5.calls]; decide)) ?_
  rintro _ w6 ⟨rfl, p6, x6⟩
  rw [he]
  generalize (syncDirM s5).1 = s6 at *
  refine go T 5 rfl ?_
  refine o1 rfl ?_
  refine op_call rfl rfl rfl (load_has x6 o6.read (by omega) (by rw [o6.calls]; decide)) ?_
  rintro v7 w7 ⟨h7, h8⟩
  cases hm : loadM b with
  | none =>
    obtain ⟨rfl, hc7⟩ := h7 hm
    refine go T 11 rfl ?_
    refine neT rfl rfl rfl rfl (by omega) ?_
    refine go T 6 rfl ?_
    refine eqT rfl rfl rfl rfl (by omega) ?_
    refine go T 9 rfl ?_
    exact post1 (.inl rfl) rfl rfl ⟨x6.chg.trans' hc7, rfl⟩
  | some q =>
    obtain ⟨hok, h9, h10⟩ := h8 q hm
    -- what stands behind the loading
    obtain ⟨gm, st, s7, p7, hv, hpl, x7, hz, hcal⟩ : ∃ gm st s7 p7, v7 = .tuple #[.pointer (some ⟨gm, 0, none⟩), .int .i64 0] ∧ st.plain = q ∧ ManO w w7 gm g s7 p7 st false ∧ (∀ e : List UInt8, e.length ≤ 100012 → (commitF s7 e).2 = 0) ∧ s7.calls < 1000 := by
      by_cases hlt : (scanE b).2.1 < b.length
      · obtain ⟨p', _, _, _, _, h14⟩ := h9 hlt
        have hwl := encE_len (wholeP_ok hok) (wholeP_sums hok)
        obtain ⟨k1, k2, k3⟩ := most_write (c := (encE (wholeP q)).1) o6.most o6.room o6.calls o6.fail neuNm (by decide) (by decide) (by decide) (by omega)
        obtain ⟨gm, st, h15, _, h17, h18⟩ := h14 k1
        exact ⟨gm, st, _, p', h15, h17, h18, fun e he => one_commit k2 (by omega), by rw [k2.calls]; omega⟩
      · obtain ⟨gm, st, h15, _, h17, _, h18⟩ := h10 hlt
        exact ⟨gm, st, _, p6, h15, h17, h18, fun e he => one_commit o6 (by omega), by rw [o6.calls]; omega⟩
    subst hv
    clear h7 h8 h9 h10 x6 x5 x4 x3 x2 o3 o4 o5 o6 las6 hfirm
    have hnx : st.next = q.next := by rw [← hpl]; rfl
    have hq0 := hok.next
    refine go T 11 rfl ?_
    refine neF rfl rfl rfl rfl (by omega) ?_
    refine go T 8 rfl ?_
    refine o1 rfl ?_
    refine op_call rfl rfl rfl (nextO_has x7) ?_
    rintro _ _ ⟨rfl, rfl⟩
    rw [hnx]
    refine go T 7 rfl ?_
    refine geS rfl rfl rfl rfl (fun hcmp => ?_) (fun hcmp => ?_)
    · refine go T 10 rfl ?_
      exact post1 (.inl rfl) rfl rfl ⟨x7.fs.chg, rfl⟩
    · have hlim : q.next < 1125899906842624 := by omega
      have hel := encE_len (anyE_ok hq0.1 hlim) (anyE_sums q.next)
      refine go T 9 rfl ?_
      refine adI rfl rfl rfl rfl (by omega) (by omega) ?_
      refine o1 rfl (op_build T rfl rfl rfl rfl rfl rfl ?_)
      refine o1 rfl ?_
      refine op_call rfl rfl rfl (commitOk_has x7 (hpl ▸ hok) (e := anyE q.next) (xa := .slice none 0 0) (xd := .slice none 0 0) (xp := .slice none 0 0) (xr := .slice none 0 0) (X := []) (anyE_I hq0.1 hlim) (fun w1 h1 => ⟨SliceK.nil _ _ _, SliceOf.nil _ _, SliceK.nil _ _ _, rfl, fun q hq => (by cases hq), SliceOf.nil _ _⟩) (by rw [hpl]; exact anyE_apply hok hlim) (hz _ hel) (by omega)) ?_
      rintro _ w8 ⟨rfl, _, p8, st8, _, hp8, x8⟩
      refine eqT rfl rfl rfl rfl (by omega) ?_
      refine go T 2 rfl ?_
      refine o1 rfl ?_
      refine op_call rfl rfl rfl (nextO_has x8) ?_
      rintro _ _ ⟨rfl, rfl⟩
      have hn8 : st8.next = q.next + 1 := by
        rw [show st8.next = st8.plain.next from rfl, hp8]
      rw [hn8]
      refine go T 1 rfl ?_
      refine adI rfl rfl rfl rfl (by omega) (by omega) ?_
      refine eqT rfl rfl rfl rfl (by omega) ?_
      refine go T 5 rfl ?_
      exact post1 (.inl rfl) rfl rfl ⟨x8.fs.chg, rfl⟩
end Go.Proofs.YtiadjkjlifnopaaGreat.Tryz
/-! From a law's walk to its row: arguments opened by their types' shape; arguments stay; the contract. -/
set_option linter.unusedVariables false
set_option linter.unusedSimpArgs false
namespace Go.Vc
open Go Go.RowKit Go.ChangeShapes Go.WideShapes Go.ChangeAt

/-- A reading of one cell at type t gives some a with R. -/
def Opens (P : Program) (t : TypeId) {α : Type} (R : World → Value → α → Prop) : Prop :=
  ∀ {H : Type} (enc : TypeId × Value → H) (w : World) (base : Nat) (spare : Nat → Bool) (held : Bool) (fuel : Nat) (cs : List Value) (x : DataW H × List MemPlace),
    DataW.trod enc P w base spare held fuel t cs = some x → ∃ u a, cs = [u] ∧ R w u a

theorem list_of {α : Type} {p : Nat → α → Prop} : ∀ n, (∀ i, i < n → ∃ a, p i a) → ∃ L : List α, L.length = n ∧ ∀ i a, L[i]? = some a → p i a
  | 0, _ => ⟨[], rfl, fun i a h => by simp at h⟩
  | n + 1, h => by
    obtain ⟨L, hl, hp⟩ := list_of n (fun i hi => h i (by omega))
    obtain ⟨a, ha⟩ := h n (by omega)
    refine ⟨L ++ [a], by simp [hl], fun i b hb => ?_⟩
    by_cases hi : i < L.length
    · rw [List.getElem?_append_left hi] at hb; exact hp i b hb
    · have : i = L.length := by have := (List.getElem?_eq_some_iff.1 hb).1; simp at this; omega
      subst this
      rw [List.getElem?_append_right (Nat.le_refl _)] at hb
      simp at hb; subst hb; rw [hl]; exact ha

theorem Opens.slice {P : Program} {t e : TypeId} {α : Type} {R : World → Value → α → Prop} (ht : P.underlying t = some (.slice e)) (hc : P.cellsOf e = 1) (hR : Opens P e R) : Opens P t (SliceOf R) := by
  intro H enc w base spare held fuel cs x h
  rcases Go.Deep.open_slice1 ht hc h with ⟨rfl, _⟩ | ⟨a, len, cap, m, n, V, D, Pl, rfl, hb, hl, hm, hmm, _, hx⟩
  · exact ⟨_, [], rfl, SliceOf.nil _ _⟩
  · have hlm : len ≤ m := by rw [hmm]; split <;> omega
    obtain ⟨L, hlen, hL⟩ := list_of (p := fun i a' => R w (V i) a') len (fun i hi => by
      obtain ⟨_, htr⟩ := hx i (by omega)
      obtain ⟨u, a', hu, hr⟩ := hR enc w base spare held n _ _ htr
      injection hu with hu _
      subst hu
      exact ⟨a', hr⟩)
    refine ⟨_, L, rfl, SliceOf.mk hlen.symm (by omega) hm fun i a' ha => ?_⟩
    have hi : i < len := by have := (List.getElem?_eq_some_iff.1 ha).1; omega
    exact ⟨a, V i, rfl, (hx i (by omega)).1, hL i a' ha⟩

theorem Opens.u8 {P : Program} {t : TypeId} (ht : P.underlying t = some (.int .u8)) : Opens P t Ru8 := by
  intro H enc w base spare held fuel cs x h
  obtain ⟨n, rfl, _, hw⟩ := DataW.trod_int ht h
  have hb : 0 ≤ n ∧ n ≤ 255 := by simp [Lit.wf, IntKind.min, IntKind.max, IntKind.signed, IntKind.bits] at hw; omega
  refine ⟨_, UInt8.ofNat n.toNat, rfl, ?_⟩
  unfold Ru8
  have : ((UInt8.ofNat n.toNat).toNat : Int) = n := by
    rw [UInt8.toNat_ofNat']; omega
  rw [this]
theorem Opens.i64 {P : Program} {t : TypeId} (ht : P.underlying t = some (.int .i64)) : Opens P t Ri64 := by
  intro H enc w base spare held fuel cs x h
  obtain ⟨n, rfl, _, hw⟩ := DataW.trod_int ht h
  have hb : -9223372036854775808 ≤ n ∧ n ≤ 9223372036854775807 := by simp [Lit.wf, IntKind.min, IntKind.max, IntKind.signed, IntKind.bits] at hw; omega
  exact ⟨_, n, rfl, rfl, hb.1, hb.2⟩
theorem Opens.bool {P : Program} {t : TypeId} (ht : P.underlying t = some .bool) : Opens P t Rbool := by
  intro H enc w base spare held fuel cs x h
  obtain ⟨b, rfl, _⟩ := DataW.trod_bool ht h
  exact ⟨_, b, rfl, rfl⟩
theorem Opens.str {P : Program} {t : TypeId} (ht : P.underlying t = some .string) : Opens P t Rstr := by
  intro H enc w base spare held fuel cs x h
  obtain ⟨s, rfl, _, hs⟩ := DataW.trod_string ht h
  exact ⟨_, s, rfl, rfl, hs⟩

/-- An argument, opened. -/
theorem Opens.arg {P : Program} {t : TypeId} {α : Type} {R : World → Value → α → Prop} (h : Opens P t R) {w : World} {r : Reach} {base : Nat} {v : Value} {H : Type} {enc : TypeId × Value → H} {sp : Nat → Bool} {held : Bool} {d : DataW H} {ps : List MemPlace} {b0 : Nat}
    (hd : P.underlying t = some .bool ∨ P.underlying t = some .string ∨ (∃ k, P.underlying t = some (.int k)) ∨ ∃ e, P.underlying t = some (.slice e))
    (hval : Value.okWide P w r base t v) (ht : DataW.Trod enc P w b0 sp held t v d ps) : ∃ a, R w v a := by
  obtain ⟨fuel, hf⟩ := ht
  obtain ⟨u, a, hu, hr⟩ := h enc w b0 sp held fuel _ _ hf
  have hv : v.cells = #[v] := by
    rcases hd with hd | hd | ⟨k, hd⟩ | ⟨e, hd⟩
    · obtain ⟨b, rfl⟩ := okWide_bool hd hval; rfl
    · obtain ⟨b, rfl⟩ := okWide_string hd hval; rfl
    · obtain ⟨b, rfl⟩ := okWide_int hd hval; rfl
    · obtain ⟨a, l, c, rfl⟩ := okWide_slice hd hval; rfl
  rw [hv] at hu
  simp at hu
  subst hu
  exact ⟨a, hr⟩

theorem args_stay {H : Type} {enc : TypeId × Value → H} {P : Program} (hl : laidOutB P = true) {W W' : World} (hb : Below W.heap.size W W') :
    ∀ (ts : List TypeId) (vs : List Value) (ds : List (DataW H)) (ps : List MemPlace), (∀ t ∈ ts, P.readableRec t = true ∧ t < P.types.size) → DataW.TrodAll enc P W 0 (fun _ => true) true ts vs ds ps → (∀ x ∈ ps, x.block < W.heap.size) →
      DataW.TrodAll enc P W' 0 (fun b => decide (b < W.heap.size)) true ts vs ds ps
  | [], vs, ds, ps, _, h, _ => by
    obtain ⟨rfl, rfl, rfl⟩ := trodAll_nil h
    exact trodAll_mk0
  | t :: ts, vs, ds, ps, ht, h, hlt => by
    obtain ⟨v, vs', d, ds', p, q, rfl, rfl, rfl, h0, r0⟩ := trodAll_cons h
    exact trodAll_cons_mk (Below.trod hl (ht t (by simp)).1 (ht t (by simp)).2 h0 hb (fun x hx => hlt x (by simp [hx])))
      (args_stay hl hb ts vs' ds' q (fun t' h' => ht t' (by simp [h'])) r0 (fun x hx => hlt x (by simp [hx])))

/-- The contract of a law's row, from its walk. -/
theorem law_lifted {C : Checked} {os : Os} {f : FuncId} {fn : Func} {s : ChangeSpec} {H : Type} {enc : TypeId × Value → H} {tb : TypeId}
    (own : ownKnob C.prog.godebug = none) (laid : laidOutB C.prog = true) (started : os.Started) (noInit : C.prog.inits.idxOf? f = none) (hfn : C.prog.funcs[f]? = some fn)
    (hvars : s.vars = []) (hres : fn.resultTypes = #[tb]) (htb : C.prog.underlying tb = some .bool)
    (hparams : ∀ t ∈ fn.params.toList, C.prog.readableRec t = true ∧ t < C.prog.types.size)
    (hspec : ∀ ds : List (DataW H), ds.length = fn.params.size → s.fn H ds = { results := [.lit (.bool true)], args := ds })
    (witness : ∃ (w : World) (tape : Tape) (i : Input), w.os = os ∧ (w.forCall tape i).Shaped C.prog ∧ i.vars = [] ∧ Input.okWide C.prog (w.forCall tape i) .any w.heap.size f i ∧
      s.pre6 enc C.prog fn [] false (w.forCall tape i).memory i.args ∧ ({} : Assume).holds C.prog (lone (Frame.enter C.prog f i.args .normal) [] (w.forCall tape i)))
    (walk : ∀ (W : World) (base : Nat) (args : Array Value) (ds : List (DataW H)) (ps : List MemPlace), (∀ (j : Nat) t v, fn.params[j]? = some t → args[j]? = some v → Value.okWide C.prog W .any base t v) →
      DataW.TrodAll enc C.prog W 0 (fun _ => true) true fn.params.toList args.toList ds ps → Calls C.prog f args W fun e W' => e = .returned (.bool true) ∧ Chg [] W W') :
    ReturnsInHanded {} C os f .any (s.pre6 enc C.prog fn [] false) (s.post enc C.prog fn false true false false) := by
  refine returnsInHanded_of_change own started noInit hfn witness ?_
  intro W base args ds gs before hval hW _ _
  have hW' := hW
  obtain ⟨p, q, hA, hV, rfl, hfz, hnd⟩ := hW
  rw [hvars] at hV
  obtain ⟨rfl, rfl⟩ := trodVars_none hV
  refine (walk W base args ds p hval hA).mono fun e W' ⟨he, hc⟩ => ?_
  subst he
  have bel := hc.below
  have hlen : ds.length = fn.params.size := by
    have := trodAll_length hA
    have h2 := this.1; have h3 := this.2
    simp at h2 h3 ⊢
    omega
  have hsp := hspec ds hlen
  refine ⟨_, rfl, ds, [], p ++ [], [], p, [], hW', ?_, ?_, ?_, bel.frame _, fun h => by cases h⟩
  · rw [List.append_nil, hsp, hres]
    exact trodAll_mk1 (shut_bool htb _)
  · rw [List.append_nil, hsp]
    exact args_stay laid bel _ _ _ _ hparams hA (fun x hx => hW'.lt x (by simp [hx]))
  · rw [hvars, List.append_nil, hsp]; exact rfl
end Go.Vc
/- ManifestAny: whatever the arguments that can be read as data, in whatever memory, the call returns true and leaves what was there as it was. No condition. -/
set_option linter.unusedVariables false
namespace Go.Proofs.YtiadjkjlifnopaaGreat
open Go Go.Vc Go.ChangeShapes Go.WideShapes Go.ChangeAt Go.RowKit
theorem manifestAny_own : ownKnob Go.Proofs.Tryz.prog.godebug = none := by kernel_rfl
theorem manifestAny_laid : laidOutB Go.Proofs.Tryz.prog = true := by kernel_rfl
set_option maxRecDepth 100000 in
theorem manifestAny_walk (W : World) (base : Nat) (args : Array Value) {H : Type} {enc : TypeId × Value → H} (ds : List (DataW H)) (ps : List MemPlace) (hval0 : ∀ (j : Nat) t v, Go.Proofs.Tryz.f3.params[j]? = some t → args[j]? = some v → Value.okWide Go.Proofs.Tryz.prog W .any base t v)
    (hA : DataW.TrodAll enc Go.Proofs.Tryz.prog W 0 (fun _ => true) true Go.Proofs.Tryz.f3.params.toList args.toList ds ps) : Calls Go.Proofs.Tryz.prog 3 args W fun e W' => e = .returned (.bool true) ∧ Chg [] W W' := by
  have hval := hval0
  rw [Go.Proofs.Tryz.params3] at hA hval
  obtain ⟨v0, vs0, d0, ds0, p0, q0, hargs, rfl, rfl, h0, r0⟩ := trodAll_cons hA
  obtain ⟨rfl, rfl, rfl⟩ := trodAll_nil r0
  obtain rfl : args = #[v0] := by cases args; simp_all
  obtain ⟨a0, x0⟩ := Opens.arg (Opens.slice Go.Proofs.Tryz.underlying22 (by kernel_rfl : Go.Proofs.Tryz.prog.cellsOf 5 = 1) (Opens.u8 Go.Proofs.Tryz.underlying5)) (.inr (.inr (.inr ⟨_, Go.Proofs.Tryz.underlying22⟩))) (hval 0 _ v0 rfl rfl) h0
  obtain ⟨A, c, rfl, _⟩ := SliceOf.form x0
  refine (Tryz.manifestAny_has A _ c a0 W x0).2.mono ?_
  rintro e W' ⟨v, rfl, hc, rfl⟩
  exact ⟨rfl, hc⟩
set_option maxRecDepth 100000 in
theorem manifestAny_lifted (os : Os) (started : os.Started) (H : Type) (enc : TypeId × Value → H) :
    ReturnsInHanded {} Go.Proofs.Tryz.checked os 3 .any (Rows.manifestAnySpec.pre6 enc Go.Proofs.Tryz.prog Go.Proofs.Tryz.f3 Rows.manifestAnyRow.domain false) (Rows.manifestAnySpec.post enc Go.Proofs.Tryz.prog Go.Proofs.Tryz.f3 false true false false) := by
  refine law_lifted (C := Go.Proofs.Tryz.checked) (tb := 4) manifestAny_own manifestAny_laid started (by kernel_rfl) Go.Proofs.Tryz.func3 rfl rfl Go.Proofs.Tryz.underlying4 ?_ ?_
    (ChangeSpec.witness6 (enc := enc) (C := Go.Proofs.Tryz.checked) false ⟨#[], #[.slice none 0 0], []⟩ 8 (by kernel_rfl) (by kernel_rfl) (by kernel_rfl) (by kernel_rfl)) (fun W base args ds ps hval hA => manifestAny_walk W base args ds ps hval hA)
  · intro t ht
    rw [Go.Proofs.Tryz.params3] at ht
    simp only [List.mem_cons, List.not_mem_nil, or_false] at ht
    subst ht
    all_goals exact ⟨by kernel_rfl, of_decide_eq_true (by kernel_rfl)⟩
  · intro ds hd
    rw [Go.Proofs.Tryz.params3] at hd
    match ds, hd with
    | [d0], _ => rfl
theorem manifestAny_holds : Rows.ManifestAnySaid :=
  OpenClaim.holds_of_wide 3 Go.Proofs.Tryz.f3 rfl rfl rfl rfl rfl rfl rfl ⟨rfl, rfl, rfl, rfl, rfl⟩ rfl rfl rfl rfl rfl (by kernel_rfl) Go.Proofs.Tryz.func3 (by kernel_rfl)
    (of_decide_eq_true (by kernel_rfl)) (by unfold Func.isWrapper; first | (rw [if_pos (by decide +kernel)]; kernel_rfl) | (rw [if_neg (by decide +kernel)]; exact ⟨rfl, rfl⟩))
    (fun os started H enc _ => manifestAny_lifted os started H enc)
#print axioms manifestAny_holds
end Go.Proofs.YtiadjkjlifnopaaGreat
