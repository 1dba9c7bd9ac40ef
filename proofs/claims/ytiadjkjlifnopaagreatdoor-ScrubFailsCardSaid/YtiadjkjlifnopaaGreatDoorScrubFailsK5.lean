/- Part 5 of the texts that the law of the last one leans on: steps of the walk and contracts of functions. Its conditions stand in each theorem. -/
import Derived.Test.YtiadjkjlifnopaaGreatDoorScrubFailsK4
import Derived.Test.YtiadjkjlifnopaaGreatDoorScrubFailsK2
import Derived.Test.YtiadjkjlifnopaaGreatDoorScrubFailsK1
import Derived.Test.YtiadjkjlifnopaaGreatDoorScrubFailsK3
set_option linter.unusedVariables false
set_option linter.unusedSimpArgs false
/-! Manifests in plain words: what is laid is loaded. -/
namespace Go.Vc
open Go
def fileE (l : List EditM) : List UInt8 := l.flatMap fun e => sealM (textE e)
structure EdGood (e : EditM) : Prop where
 ok : EditOk e
 sums : Sums e
 len : (textE e).length ≤ 100000
theorem fileE_cons (e : EditM) (l : List EditM) : fileE (e :: l) = sealM (textE e) ++ fileE l := rfl
theorem fileE_snoc (l : List EditM) (e : EditM) : fileE (l ++ [e]) = fileE l ++ sealM (textE e) := by unfold fileE; rw [List.flatMap_append]; simp
theorem scanM_file : ∀ {l : List EditM}, (∀ e ∈ l, EdGood e) → scanM (fileE l) = (l.map textE, (fileE l).length, true)
 | [], _ => scanM_nil
 | e :: l, h => by
  have he := (h e (by simp)).len
  rw [fileE_cons, scanM_sealM _ _ (by omega), scanM_file (fun x hx => h x (by simp [hx]))]
  simp [sealM_length]
theorem edGo_file : ∀ {l : List EditM} (k : Nat) (cut : Bool), (∀ e ∈ l, EdGood e) → edGo (l.map textE) k cut = (l, k + (fileE l).length, cut)
 | [], k, cut, _ => rfl
 | e :: l, k, cut, h => by
  have he := h e (by simp)
  rw [List.map_cons, edGo, decE_textE he.ok he.sums, edGo_file _ _ (fun x hx => h x (by simp [hx])), fileE_cons, List.length_append]
  simp; omega
theorem scanE_file {l : List EditM} (h : ∀ e ∈ l, EdGood e) : scanE (fileE l) = (l, (fileE l).length, true) := by
 unfold scanE
 rw [scanM_file h, edGo_file _ _ h]
 simp
def FileOk (b : List UInt8) (st : PSt) : Prop := ∃ l, l ≠ [] ∧ (∀ e ∈ l, EdGood e) ∧ b = fileE l ∧ loadP l true p0 true = (st, true)
theorem FileOk.load {b : List UInt8} {st : PSt} (h : FileOk b st) : loadM b = some st ∧ (scanE b).2.1 = b.length := by
 obtain ⟨l, h1, h2, rfl, h4⟩ := h
 unfold loadM
 rw [scanE_file h2]
 dsimp only
 rw [h4]
 exact ⟨if_pos ⟨rfl, h1⟩, rfl⟩
theorem encE_good {e : EditM} (h : EdGood e) : encE e = (sealM (textE e), 0) := by unfold encE; rw [if_pos (editB_ok.2 h.ok)]
theorem FileOk.commit {b : List UInt8} {st st' : PSt} {e : EditM} (h : FileOk b st) (he : EdGood e) (ha : applyP st e false = some st') : FileOk (b ++ (encE e).1) st' := by
 obtain ⟨l, h1, h2, rfl, h4⟩ := h
 refine ⟨l ++ [e], by simp, fun x hx => ?_, ?_, ?_⟩
 ·rcases List.mem_append.1 hx with hx | hx
  ·exact h2 x hx
  ·rw [List.mem_singleton.1 hx]; exact he
 ·rw [fileE_snoc, encE_good he]
 ·rw [loadP_snoc, h4]
  have : (true && l.isEmpty) = false := by simpa using h1
  rw [this, ha]
theorem putK_all {α : Type} {key : α → Int} : ∀ {xs L : List α}, ((L ++ xs).map key).Nodup → putK key xs L = some (L ++ xs)
 | [], L, _ => by simp [putK]
 | x :: xs, L, h => by
  rw [putK, if_neg, putK_all (by simpa using h)]
  ·simp
  ·intro hc
   obtain ⟨y, hy, hk⟩ := List.any_eq_true.1 hc
   simp at hk
   rw [List.map_append, List.nodup_append] at h
   exact h.2.2 _ (List.mem_map.2 ⟨y, hy, rfl⟩) _ (List.mem_map.2 ⟨x, by simp, rfl⟩) hk.symm
theorem sortK_id {α : Type} {key : α → Int} {L : List α} (hn : (L.map key).Nodup) (hs : L.Pairwise (fun x y => key x ≤ key y)) : sortK key L = L := (sortK_unique hn (List.Perm.refl _) hs).symm
theorem apply_whole {st : PSt} (h : POk st) : applyP p0 (wholeP st) true = some st := by
 have h1 : putK numK st.segs [] = some st.segs := by rw [putK_all (by simpa using h.ns)]; simp
 have h2 : putK gKey st.pars [] = some st.pars := by rw [putK_all (by simpa using h.np)]; simp
 have hn := h.next
 have hq := h.seq
 have l1 : laterM 1 st.next = (st.next, true) := by unfold laterM; rw [if_neg (by omega), decide_eq_true (by omega)]
 have l2 : laterM 1 st.seq = (st.seq, true) := by unfold laterM; rw [if_neg (by omega), decide_eq_true (by omega)]
 have hf : finePM st.segs st.pars st.next [] = true := by
  unfold finePM
  simp only [List.all_nil, Bool.true_and, Bool.and_eq_true, decide_eq_true_eq, Bool.not_eq_true', List.any_eq_false]
  have := h.ls
  have := h.lp
  refine ⟨by omega, fun x hx => ?_, fun x hx => ?_⟩
  ·have := h.below x hx; simp; omega
  ·have := h.belowP x hx; simp; omega
 have hB : editB (wholeP st) = true := editB_ok.2 (wholeP_ok h)
 unfold applyP
 rw [hB]
 unfold wholeP p0
 dsimp only [takeK, Option.getD]
 rw [h1, h2, l1, l2]
 dsimp only [Option.map, Option.isSome]
 simp only [sortK_id h.ns h.ss, sortK_id h.np h.sp, if_true, hf]
 simp
theorem flat_len {α : Type} {f : α → List UInt8} {m : Nat} : ∀ {l : List α}, (∀ x ∈ l, (f x).length ≤ m) → (l.flatMap f).length ≤ m * l.length
 | [], _ => by simp
 | x :: l, h => by
  have h1 := h x (by simp)
  have h2 := flat_len (l := l) (fun y hy => h y (by simp [hy]))
  rw [List.flatMap_cons, List.length_append, List.length_cons, Nat.mul_add]
  omega
theorem pairE_len : ∀ (ns zs : List Int), (∀ n ∈ ns, n < 18446744073709551616) → (∀ n ∈ zs, n < 18446744073709551616) → (pairE ns zs).length ≤ 20 * ns.length
 | [], zs, _, _ => by simp [pairE]
 | n :: ns, [], _, _ => by simp [pairE]
 | n :: ns, z :: zs, h1, h2 => by
  have i := pairE_len ns zs (fun x hx => h1 x (by simp [hx])) (fun x hx => h2 x (by simp [hx]))
  have k := numsE_len [n, z] (fun x hx => by
   simp only [List.mem_cons, List.not_mem_nil, or_false] at hx
   rcases hx with rfl | rfl
   ·exact h1 _ (by simp)
   ·exact h2 _ (by simp))
  rw [pairE, List.length_append, List.length_cons]
  simp only [List.length_cons, List.length_nil] at k
  omega
theorem textE_len {e : EditM} (h : EditOk e) (hs : Sums e) : (textE e).length ≤ 100000 := by
 have a := flat_len (f := segE) (m := 60) (l := e.adds) (fun s hx => by
  obtain ⟨⟨a, a'⟩, ⟨b, b'⟩, ⟨c, c'⟩, ⟨d, d'⟩⟩ := h.adds1 s hx
  have hsum := hs.1 s hx
  have ht : truthI s.sealed ≤ 1 := by unfold truthI; split <;> omega
  have := numsE_len [s.num, truthI s.sealed, s.group, s.member, s.size, s.sum] (fun x hx => by
   simp only [List.mem_cons, List.not_mem_nil, or_false] at hx
   rcases hx with rfl | rfl | rfl | rfl | rfl | rfl <;> omega)
  simpa [segE] using this)
 have b := flat_len (f := parE) (m := 100) (l := e.pars) (fun p hx => by
  have ho := h.pars1 p hx
  have hsum := hs.2 p hx
  have h1 := ho.group
  have h2 := ho.size
  have h3 := ho.len3
  have k1 := numsE_len [p.group, p.nums.length] (fun x hx => by
   simp only [List.mem_cons, List.not_mem_nil, or_false] at hx
   rcases hx with rfl | rfl <;> omega)
  have k2 := numsE_len [p.size, p.sum] (fun x hx => by
   simp only [List.mem_cons, List.not_mem_nil, or_false] at hx
   rcases hx with rfl | rfl <;> omega)
  have k3 := pairE_len p.nums p.sizes (fun n hn => by have := ho.nums n hn; omega) (fun n hn => by have := ho.sizes n hn; omega)
  simp only [List.length_cons, List.length_nil] at k1 k2
  unfold parE
  rw [List.length_append, List.length_append]
  omega)
 have c := numsE_len e.dels (fun n hn => by have := h.dels1 n hn; omega)
 have d := numsE_len e.drops (fun n hn => by have := h.drops1 n hn; omega)
 have h1 := h.next
 have h2 := h.seq
 have h3 := h.adds
 have h4 := h.dels
 have h5 := h.pars
 have h6 := h.drops
 have k1 := numsE_len [e.next, e.seq, e.adds.length] (fun x hx => by
  simp only [List.mem_cons, List.not_mem_nil, or_false] at hx
  rcases hx with rfl | rfl | rfl <;> omega)
 have one : ∀ n : Int, n < 18446744073709551616 → (numsE [n]).length ≤ 10 := fun n hn => by
  have := numsE_len [n] (fun x hx => by rw [List.mem_singleton.1 hx]; exact hn)
  simpa using this
 have k2 := one e.dels.length (by omega)
 have k3 := one e.pars.length (by omega)
 have k4 := one e.drops.length (by omega)
 simp only [List.length_cons, List.length_nil] at k1
 unfold textE
 simp only [List.length_append]
 omega
theorem edGood {e : EditM} (h : EditOk e) (hs : Sums e) : EdGood e := ⟨h, hs, textE_len h hs⟩
theorem FileOk.lay {st : PSt} (h : POk st) : FileOk (encE (wholeP st)).1 st := by
 have hg : EdGood (wholeP st) := edGood (wholeP_ok h) (wholeP_sums h)
 refine ⟨[wholeP st], by simp, fun x hx => by rw [List.mem_singleton.1 hx]; exact hg, ?_, ?_⟩
 ·rw [encE_good hg]; simp [fileE]
 ·rw [loadP, apply_whole h]; rfl
end Go.Vc
/-! Manifests: files that have a manifest alone; begun. -/
namespace Go.Vc
open Go
structure MSt (s : FsM) (calls : Int) (b : List UInt8) (i : Nat) (q : PSt) : Prop where
 one : OneAt s 1048576 calls manNm b b.length i
 last : Lasts s manNm i
 file : FileOk b q
 ok : POk q
theorem man0_whole : man0 = wholeP p0 := rfl
theorem encE_len {e : EditM} (h : EditOk e) (hs : Sums e) : (encE e).1.length ≤ 100012 := by
 rw [encE_good (edGood h hs)]
 have := textE_len h hs
 rw [sealM_length]; omega
theorem mst_new : (writeM (newM 1048576) manNm neuNm (encE man0).1).2 = 0 ∧ MSt (writeM (newM 1048576) manNm neuNm (encE man0).1).1 5 (encE man0).1 0 p0 := by
 have hl := encE_len (wholeP_ok p0_ok) (wholeP_sums p0_ok)
 rw [man0_whole]
 obtain ⟨h1, h2, h3⟩ := most_write (s := newM 1048576) (room := 1048576) (calls := 0) (nm := manNm) (c := (encE (wholeP p0)).1) (u := 0) (.inl ⟨rfl, rfl⟩) rfl rfl rfl neuNm (by decide) (by decide) (by decide) (by omega)
 exact ⟨h1, h2, h3, FileOk.lay p0_ok, p0_ok⟩
section
variable {s : FsM} {calls : Int} {b : List UInt8} {i : Nat} {q q' : PSt} {e : EditM}
theorem MSt.commit (h : MSt s calls b i q) (hg : EdGood e) (ha : applyP q e false = some q') (hr : (b.length : Int) + (encE e).1.length ≤ 1048576) : (commitF s (encE e).1).2 = 0 ∧ MSt (commitF s (encE e).1).1 (calls + 2) (b ++ (encE e).1) i q' := by
 obtain ⟨h1, h2, h3⟩ := one_append h.one hr
 obtain ⟨h4, h5, h6⟩ := one_sync h2
 unfold commitF
 rw [if_pos h1]
 refine ⟨h4, ?_, h6 _ (h3 _ h.last), h.file.commit hg ha, applyP_ok h.ok hg.sums ha⟩
 rw [show calls + 2 = calls + 1 + 1 from by omega]
 exact h5
theorem MSt.lay (h : MSt s calls b i q) (hr : b.length ≤ 900000) : (writeM s manNm neuNm (encE (wholeP q)).1).2 = 0 ∧ MSt (writeM s manNm neuNm (encE (wholeP q)).1).1 (calls + 5) (encE (wholeP q)).1 s.files.length q := by
 have hl := encE_len (wholeP_ok h.ok) (wholeP_sums h.ok)
 obtain ⟨h1, h2, h3⟩ := most_write (c := (encE (wholeP q)).1) h.one.most h.one.room h.one.calls h.one.fail neuNm (by decide) (by decide) (by decide) (by omega)
 exact ⟨h1, h2, h3, FileOk.lay h.ok, h.ok⟩
theorem MSt.crash (h : MSt s calls b i q) : MSt (crashM s 0 []) 0 b 0 q := by
 have h1 := one_crash h.one h.last
 rw [List.take_length] at h1
 exact ⟨h1, ⟨h1.dir, rfl⟩, h.file, h.ok⟩
end
end Go.Vc
namespace Go.Proofs.YtiadjkjlifnopaaGreatDoor.Tryz
open Go Go.Vc
def stM0 : StM := ⟨[], [], 1, 1⟩
theorem createNew_has {w0 w : World} {g : Nat} {p : FsP} (x : FsO w0 w g (newM 1048576) p) :
  Has Tryz.prog 19 #[ptrV g] w (fun v w' => ∃ gm p' s, v = .tuple #[.pointer (some ⟨gm, 0, none⟩), .int .i64 0] ∧ Chg (p.fp g) w w' ∧ ManO w0 w' gm g s p' stM0 false ∧ MSt s 5 (encE man0).1 0 p0 ∧ Grows w g p p') :=
 (createMan_has x (by decide) rfl mst_new.1).mono fun v w' ⟨gm, p', h1, h2, h3, h4, h5, h6, h7⟩ => ⟨gm, p', _, h1, h2, ⟨h3, ⟨_, _, h5, fun w1 _ => ⟨SliceK.nil _ _ _, SliceK.nil _ _ _, fun q hq => by cases hq⟩⟩, h6, by have := x.chg.size; omega⟩, mst_new.2, h4⟩
theorem commitOk_has {w0 w : World} {gm g : Nat} {s : FsM} {p : FsP} {st : StM} {q' : PSt} (x : ManO w0 w gm g s p st false) (hok : POk st.plain) {e : EditM} {xa xd xp xr : Value} {X : List ParS} (hI : EdI e) (hr : Firm (gm :: p.fp g) w (fun w => ERd w ⟨e, xa, xd, xp, xr, X.map (·.1)⟩)) (hap : applyP st.plain e false = some q') (hz : (commitF s (encE e).1).2 = 0) (hcalls : s.calls < 1000000000 - 10) :
  Has Tryz.prog 21 #[.pointer (some ⟨gm, 0, none⟩), .agg #[.int .i64 e.next, .int .i64 e.seq, xa, xd, xp, xr]] w (fun v w' => v = .int .i64 0 ∧ Chg (gm :: p.fp g) w w' ∧ ∃ p' st', Grows w g p p' ∧ st'.plain = q' ∧ ManO w0 w' gm g (commitF s (encE e).1).1 p' st' false) := by
 have hX : X.map (·.1.p) = e.pars := by
  have := hr.now.parsE
  dsimp only at this
  rw [← this, List.map_map]; rfl
 obtain ⟨k1, k2, k3, k4⟩ := plain_keys hok
 have h1 := applyM_plain (st := st) (first := false) hX
 rw [hap] at h1
 cases ha : applyM st e X false with
 | none => rw [ha] at h1; cases h1
 | some st' =>
  rw [ha] at h1
  injection h1 with h1
  refine (commit_has x hI hr k1 k2 (by omega) (by omega) ha hcalls).mono fun v w' ⟨h2, h3, p', h4, h5⟩ => ?_
  rw [hz] at h2 h5
  exact ⟨h2, h3, p', st', h4, h1, h5⟩
theorem row_firm {α : Type} {f : α → List Value} {k : Nat} (hk : ∀ x, (f x).length = k) {w : World} {S : List Nat} {gb : Nat} {t : TypeId} {L : List α} (hb : Blk w gb t (L.flatMap f)) (hl : L.length ≤ 1000000) (hS : gb ∉ S) : Firm S w (fun w => SliceK k (RdL f) w (.slice (some ⟨gb, 0, none⟩) L.length L.length) L) := fun w1 h1 => by
 have h2 := hb.keep h1 hS
 refine (Own.mk h2 (Nat.le_refl _) (by unfold maxLen; omega) (by rw [rk_len hk]) (by rw [List.take_of_length_le (by rw [rk_len hk]; exact Nat.le_refl _)])).readsK hk
end Go.Proofs.YtiadjkjlifnopaaGreatDoor.Tryz
/-! Manifests: begun. -/
namespace Go.Vc
open Go
end Go.Vc
namespace Go.Proofs.YtiadjkjlifnopaaGreatDoor.Tryz
open Go Go.Vc
end Go.Proofs.YtiadjkjlifnopaaGreatDoor.Tryz
/-! Names of files: numbers below a hundred. -/
namespace Go.Vc
open Go
def dig2 (n : Nat) : List UInt8 := if n < 10 then [UInt8.ofNat (48 + n)] else [UInt8.ofNat (48 + n / 10), UInt8.ofNat (48 + n % 10)]
def decs : List UInt8 := [48, 48, 48, 49, 48, 50, 48, 51, 48, 52, 48, 53, 48, 54, 48, 55, 48, 56, 48, 57, 49, 48, 49, 49, 49, 50, 49, 51, 49, 52, 49, 53, 49, 54, 49, 55, 49, 56, 49, 57, 50, 48, 50, 49, 50, 50, 50, 51, 50, 52, 50, 53, 50, 54, 50, 55, 50, 56, 50, 57, 51, 48, 51, 49, 51, 50, 51, 51, 51, 52, 51, 53, 51, 54, 51, 55, 51, 56, 51, 57, 52, 48, 52, 49, 52, 50, 52, 51, 52, 52, 52, 53, 52, 54, 52, 55, 52, 56, 52, 57, 53, 48, 53, 49, 53, 50, 53, 51, 53, 52, 53, 53, 53, 54, 53, 55, 53, 56, 53, 57, 54, 48, 54, 49, 54, 50, 54, 51, 54, 52, 54, 53, 54, 54, 54, 55, 54, 56, 54, 57, 55, 48, 55, 49, 55, 50, 55, 51, 55, 52, 55, 53, 55, 54, 55, 55, 55, 56, 55, 57, 56, 48, 56, 49, 56, 50, 56, 51, 56, 52, 56, 53, 56, 54, 56, 55, 56, 56, 56, 57, 57, 48, 57, 49, 57, 50, 57, 51, 57, 52, 57, 53, 57, 54, 57, 55, 57, 56, 57, 57]
theorem decs_len : decs.length = 200 := by decide +kernel
theorem decs_at {n : Nat} (hn : n < 100) (h : ¬ n < 10) : (decs.take (2 * n + 2)).drop (2 * n) = dig2 n := by
 have key : ∀ a : Fin 100, ¬ a.val < 10 → (decs.take (2 * a.val + 2)).drop (2 * a.val) = dig2 a.val := by decide +kernel
 exact key ⟨n, hn⟩ h
def endRaw : List UInt8 := [46, 114, 97, 119]
def endSeg : List UInt8 := [46, 115, 101, 103]
def endPar : List UInt8 := [46, 112, 97, 114]
theorem dig2_len (n : Nat) : 1 ≤ (dig2 n).length ∧ (dig2 n).length ≤ 2 := by unfold dig2; split <;> simp
theorem dig2_inj {n m : Nat} (hn : n < 100) (hm : m < 100) (h : dig2 n = dig2 m) : n = m := by
 have key : ∀ a b : Fin 100, dig2 a = dig2 b → a = b := by decide +kernel
 have := key ⟨n, hn⟩ ⟨m, hm⟩ h
 injection this
end Go.Vc
namespace Go.Proofs.YtiadjkjlifnopaaGreatDoor.Tryz
open Go Go.Vc
theorem small2_has (n : Nat) (w : World) (hn : n < 100) : Has Tryz.prog 171 #[.int .i64 (n : Int)] w (fun v w' => w' = w ∧ v = .string (str (dig2 n))) := by
 by_cases h10 : n < 10
 ·exact (small_has n w h10).mono fun v w' ⟨h1, h2⟩ => ⟨h1, by rw [h2]; unfold dig2; rw [if_pos h10]⟩
 refine enter Tryz.func171 rfl rfl (by decide) rfl (e := [(0, .int .i64 (n : Int))]) ⟨rfl, trivial⟩ ?_
 refine run ?_
 refine go T 9 rfl ?_
 refine ltF rfl rfl rfl rfl (by omega) ?_
 refine go T 8 rfl ?_
 refine o1 rfl (op_mul rfl rfl rfl (wrap_i64_in (by omega) (by omega)) ?_)
 refine go T 1 rfl ?_
 refine o1 rfl (op_mul rfl rfl rfl (wrap_i64_in (by omega) (by omega)) ?_)
 refine adI rfl rfl rfl rfl (by omega) (by omega) ?_
 refine o1 rfl ?_
 refine op_slice_str (s := decs) T (l := 2 * n) (h' := 2 * n + 2) rfl rfl rfl (some_int (by omega)) (some_int (by omega)) (by omega) (by rw [decs_len]; omega) ?_
 refine go T 4 rfl ?_
 refine post1 (.inl rfl) rfl rfl ⟨rfl, ?_⟩
 rw [decs_at hn h10]
theorem formatInt2_has' (n : Nat) (w : World) (hn : n < 100) : Has Tryz.prog 130 #[.int .i64 (n : Int), .int .i64 10] w (fun v w' => w' = w ∧ v = .string (str (dig2 n))) := by
 refine enter Tryz.func130 rfl rfl (by decide) rfl (e := [(0, .int .i64 (n : Int)), (1, .int .i64 10)]) ⟨rfl, rfl, trivial⟩ ?_
 refine run ?_
 refine go T 9 rfl ?_
 refine eqT rfl rfl rfl rfl (by omega) ?_
 refine go T 7 rfl ?_
 refine leT rfl rfl rfl rfl (by omega) ?_
 refine go T 2 rfl ?_
 refine ltT rfl rfl rfl rfl (by omega) ?_
 refine go T 7 rfl ?_
 refine o1 rfl ?_
 refine op_call rfl rfl rfl (small2_has n w hn) ?_
 rintro _ _ ⟨rfl, rfl⟩
 refine go T 6 rfl ?_
 exact post1 (.inl rfl) rfl rfl ⟨rfl, rfl⟩
theorem formatInt2_has (n : Nat) (w : World) (hn : n < 100) : Has Tryz.prog 84 #[.int .i64 (n : Int), .int .i64 10] w (fun v w' => w' = w ∧ v = .string (str (dig2 n))) := by
 refine enter Tryz.func84 rfl rfl (by decide) rfl (e := [(0, .int .i64 (n : Int)), (1, .int .i64 10)]) ⟨rfl, rfl, trivial⟩ ?_
 refine run ?_
 refine go T 9 rfl ?_
 refine o1 rfl ?_
 refine op_call rfl rfl rfl (formatInt2_has' n w hn) ?_
 rintro _ _ ⟨rfl, rfl⟩
 refine go T 4 rfl ?_
 exact post1 (.inl rfl) rfl rfl ⟨rfl, rfl⟩
theorem rawName2_has (n : Nat) (w : World) (hn : n < 100) : Has Tryz.prog 83 #[.int .i64 (n : Int)] w (fun v w' => w' = w ∧ v = .string (str (dig2 n ++ endRaw))) := by
 have hl := dig2_len n
 refine enter Tryz.func83 rfl rfl (by decide) rfl (e := [(0, .int .i64 (n : Int))]) ⟨rfl, trivial⟩ ?_
 refine run ?_
 refine go T 8 rfl ?_
 refine o1 rfl ?_
 refine op_call rfl rfl rfl (formatInt2_has n w hn) ?_
 rintro _ _ ⟨rfl, rfl⟩
 refine o1 rfl ?_
 refine op_str_add (a := dig2 n) (b := endRaw) rfl rfl rfl (by simp [endRaw]; omega) ?_
 refine go T 4 rfl ?_
 exact post1 (.inl rfl) rfl rfl ⟨rfl, rfl⟩
theorem segName2_has (n : Nat) (w : World) (hn : n < 100) : Has Tryz.prog 82 #[.int .i64 (n : Int)] w (fun v w' => w' = w ∧ v = .string (str (dig2 n ++ endSeg))) := by
 have hl := dig2_len n
 refine enter Tryz.func82 rfl rfl (by decide) rfl (e := [(0, .int .i64 (n : Int))]) ⟨rfl, trivial⟩ ?_
 refine run ?_
 refine go T 8 rfl ?_
 refine o1 rfl ?_
 refine op_call rfl rfl rfl (formatInt2_has n w hn) ?_
 rintro _ _ ⟨rfl, rfl⟩
 refine o1 rfl ?_
 refine op_str_add (a := dig2 n) (b := endSeg) rfl rfl rfl (by simp [endSeg]; omega) ?_
 refine go T 4 rfl ?_
 exact post1 (.inl rfl) rfl rfl ⟨rfl, rfl⟩
theorem parName2_has (n : Nat) (w : World) (hn : n < 100) : Has Tryz.prog 46 #[.int .i64 (n : Int)] w (fun v w' => w' = w ∧ v = .string (str (dig2 n ++ endPar))) := by
 have hl := dig2_len n
 refine enter Tryz.func46 rfl rfl (by decide) rfl (e := [(0, .int .i64 (n : Int))]) ⟨rfl, trivial⟩ ?_
 refine run ?_
 refine go T 8 rfl ?_
 refine o1 rfl ?_
 refine op_call rfl rfl rfl (formatInt2_has n w hn) ?_
 rintro _ _ ⟨rfl, rfl⟩
 refine o1 rfl ?_
 refine op_str_add (a := dig2 n) (b := endPar) rfl rfl rfl (by simp [endPar]; omega) ?_
 refine go T 4 rfl ?_
 exact post1 (.inl rfl) rfl rfl ⟨rfl, rfl⟩
end Go.Proofs.YtiadjkjlifnopaaGreatDoor.Tryz
/-! Strings: Index, Contains, DeleteFunc. -/
namespace Go.Vc
open Go
def strL (x : Nm) : List Value := [.string (str x)]
end Go.Vc
namespace Go.Proofs.YtiadjkjlifnopaaGreatDoor.Tryz
open Go Go.Vc
end Go.Proofs.YtiadjkjlifnopaaGreatDoor.Tryz
/-! Manifests: File, Old. -/
namespace Go.Vc
open Go
def fileNm (s : SegM) : Nm := dig2 s.num.toNat ++ (if s.sealed = true then endSeg else endRaw)
def parNm (q : ParM) : Nm := dig2 q.group.toNat ++ endPar
end Go.Vc
namespace Go.Proofs.YtiadjkjlifnopaaGreatDoor.Tryz
open Go Go.Vc
theorem file_has (s : SegM) (w : World) (h0 : 0 ≤ s.num) (h1 : s.num < 100) : Has Tryz.prog 45 #[.agg (segL s).toArray] w (fun v w' => Chg [] w w' ∧ v = .string (str (fileNm s))) := by
 obtain ⟨num, sl, gr, me, sz, su⟩ := s
 dsimp only at h0 h1
 obtain ⟨n, rfl⟩ := Int.eq_ofNat_of_zero_le h0
 refine enter Tryz.func45 rfl rfl (by decide) rfl (e := [(0, .agg #[.int .i64 (n : Int), .bool sl, .int .i64 gr, .int .i64 me, .int .i64 sz, .int .u32 (su : Int)])]) ⟨rfl, trivial⟩ ?_
 refine run ?_
 refine go T 2 rfl ?_
 refine o1 rfl ?_
 refine op_box rfl rfl (fun g1 w1 hs1 hc1 hg1 => ?_)
 have hg1 : Blk w1 g1 26 [.int .i64 (n : Int), .bool sl, .int .i64 gr, .int .i64 me, .int .i64 sz, .int .u32 (su : Int)] := hg1
 unfold fileNm
 dsimp only
 rw [Int.toNat_natCast]
 cases sl with
 | true =>
  refine go T 7 rfl ?_
  refine ldB T hg1 rfl rfl rfl rfl rfl rfl ?_
  refine go T 6 rfl ?_
  refine ldB T hg1 rfl rfl rfl rfl rfl rfl ?_
  refine o1 rfl ?_
  refine op_call rfl rfl rfl (segName2_has n w1 (by omega)) ?_
  rintro _ _ ⟨rfl, rfl⟩
  refine go T 5 rfl ?_
  exact post1 (.inl rfl) rfl rfl ⟨hc1, rfl⟩
 | false =>
  refine go T 7 rfl ?_
  refine ldB T hg1 rfl rfl rfl rfl rfl rfl ?_
  refine go T 8 rfl ?_
  refine ldB T hg1 rfl rfl rfl rfl rfl rfl ?_
  refine o1 rfl ?_
  refine op_call rfl rfl rfl (rawName2_has n w1 (by omega)) ?_
  rintro _ _ ⟨rfl, rfl⟩
  refine go T 4 rfl ?_
  exact post1 (.inl rfl) rfl rfl ⟨hc1, rfl⟩
end Go.Proofs.YtiadjkjlifnopaaGreatDoor.Tryz
/-! Manifests of the call's own: Rewrite, Segs, Next, Old. -/
namespace Go.Proofs.YtiadjkjlifnopaaGreatDoor.Tryz
open Go Go.Vc
section
variable {w0 w w' : World} {gm g : Nat} {s s' : FsM} {p p' : FsP} {st : StM} {cl : Bool}
theorem ManO.step (x : ManO w0 w gm g s p st cl) (hc : Chg (p.fp g) w w') (x' : FsO w0 w' g s' p') (hg : Grows w g p p') : ManO w0 w' gm g s' p' st cl := by
 obtain ⟨vs, vp, hm, hst⟩ := x.rows
 have hl := Blk.lt hm
 exact ⟨x', ⟨vs, vp, Blk.keep hm hc x.out, firm_grow hst (hc.mono (fun k hk _ => by simp [hk])) hg⟩, fun h => by
  rcases hg gm h with h | h
  ·exact x.out h
  ·omega, x.fresh⟩
end
section
variable {w0 w : World} {gm g : Nat} {s : FsM} {p : FsP} {st : StM}
theorem segsO_has (x : ManO w0 w gm g s p st false) (hb : st.segs.length ≤ 1000000) : Has Tryz.prog 27 #[.pointer (some ⟨gm, 0, none⟩)] w (fun v w' => Chg [] w w' ∧ Own w' 26 6 v st.segs.length (st.segs.flatMap segL) ∧ ∀ h, v.ownBlock = some h → w.heap.size ≤ h) := by
 obtain ⟨vs, vp, hm, hst⟩ := x.rows
 exact segsM_has hm st.segs hst.now.segs hb
theorem nextO_has (x : ManO w0 w gm g s p st false) : Has Tryz.prog 28 #[.pointer (some ⟨gm, 0, none⟩)] w (fun v w' => w' = w ∧ v = .int .i64 st.next) := by
 obtain ⟨vs, vp, hm, hst⟩ := x.rows
 exact nextM_has hm
end
end Go.Proofs.YtiadjkjlifnopaaGreatDoor.Tryz
/-! Scrub: find, read. -/
namespace Go.Vc
open Go
def seg0 : SegM := ⟨0, false, 0, 0, 0, 0⟩
def findM (L : List SegM) (n : Int) : SegM := (L.find? fun s => decide (s.num = n)).getD seg0
def readOk (s : FsM) (nm : Nm) (size : Int) (sum : Nat) : Bool := match readM s nm with
 | some b => decide ((b.length : Int) = size) && decide (crcN b = sum)
 | none => false
def bytesOf (s : FsM) (nm : Nm) : List UInt8 := (readM s nm).getD []
theorem find_idxM {α : Type} (p : α → Bool) : ∀ L : List α, (idxM p L < 0 → L.find? p = none) ∧ ∀ x, ¬ idxM p L < 0 → L[(idxM p L).toNat]? = some x → L.find? p = some x
 | [] => by simp [idxM]
 | a :: l => by
  have ih := find_idxM p l
  unfold idxM
  by_cases h : p a = true
  ·rw [if_pos h]
   refine ⟨fun h => by omega, fun x _ hx => ?_⟩
   simp at hx
   rw [List.find?_cons_of_pos h, hx]
  ·rw [if_neg h, List.find?_cons_of_neg h]
   split
   ·rename_i h1
    refine ⟨fun _ => ih.1 h1, fun x hx => by omega⟩
   ·rename_i h1
    refine ⟨fun h2 => by have := idxM_lt p l; omega, fun x _ hx => ih.2 x h1 ?_⟩
    have := idxM_lt p l
    rw [show (idxM p l + 1).toNat = (idxM p l).toNat + 1 from by omega] at hx
    simpa using hx
end Go.Vc
namespace Go.Proofs.YtiadjkjlifnopaaGreatDoor.Tryz
open Go Go.Vc
theorem findC_has (y : SegM) {w : World} {g : Nat} {n : Int} (hg : w.cell? ⟨g, 0, none⟩ = some (.int .i64 n)) :
  Has Tryz.prog 127 #[.agg (segL y).toArray, .pointer (some ⟨g, 0, none⟩)] w (fun v w' => Chg [] w w' ∧ v = .bool (decide (y.num = n))) := by
 refine enter Tryz.func127 rfl rfl (by decide) rfl (e := [(0, .agg (segL y).toArray), (1, .pointer (some ⟨g, 0, none⟩))]) ⟨rfl, rfl, trivial⟩ ?_
 refine run ?_
 refine go T 2 rfl ?_
 refine o1 rfl ?_
 refine op_box rfl rfl (fun g2 w1 hs1 hc1 hg1 => ?_)
 have hg1 : Blk w1 g2 26 (segL y) := hg1
 unfold segL at hg1
 have hg' := hc1.cell0 hg
 refine go T 6 rfl ?_
 refine ldB T hg1 rfl rfl rfl rfl rfl rfl ?_
 refine o1 rfl (op_load T rfl rfl rfl rfl (by assumption) ?_)
 refine o1 rfl ?_
 refine op_eql_d rfl rfl rfl ?_
 refine go T 4 rfl ?_
 exact post1 (.inl rfl) rfl rfl ⟨hc1, rfl⟩
theorem find_has (A : Option Addr) (n c : Nat) (L : List SegM) (num : Int) (w : World) (hs : SliceK 6 (RdL segL) w (.slice A n c) L) :
  Has Tryz.prog 76 #[.slice A n c, .int .i64 num] w (fun v w' => Chg [] w w' ∧ ∃ b, v = .tuple #[.agg (segL (findM L num)).toArray, .bool b]) := by
 obtain ⟨rfl, hl1, hl2⟩ := hs.len
 unfold maxLen at hl2
 refine enter Tryz.func76 rfl rfl (by decide) rfl (e := [(0, .slice A L.length c), (1, .int .i64 num)]) ⟨rfl, rfl, trivial⟩ ?_
 refine run ?_
 refine go T 2 rfl ?_
 refine o1 rfl ?_
 refine op_box rfl rfl (fun g3 w1 hs1 hc1 hg3 => ?_)
 have hg3 : Blk w1 g3 2 [.int .i64 num] := hg3
 have hs1 : w.heap.size ≤ g3 := hs1
 refine o1 rfl ?_
 refine op_alloc T rfl rfl (fun g4 w2 hs2 hc2 hg4 => ?_)
 have hg4 : Blk w2 g4 26 [.int .i64 0, .bool false, .int .i64 0, .int .i64 0, .int .i64 0, .int .u32 0] := hg4
 have hs2 : w1.heap.size ≤ g4 := hs2
 replace hg3 := hg3.keep0 hc2
 have hc02 := hc1.trans' hc2
 have hz := hc1.size
 refine go T 6 rfl ?_
 refine o1 rfl ?_
 refine op_makeFunc (fv := #[]) (cv := #[.pointer (some ⟨g3, 0, none⟩)]) rfl rfl rfl ?_
 refine o1 rfl ?_
 refine op_call rfl rfl rfl (indexSeg_has A L.length c L _ _ (fun s => decide (s.num = num)) (hs.keepR hc02) (fun w3 y hc3 _ => findC_has y (hc3.cell0 (hg3.cell rfl)))) ?_
 rintro _ w3 ⟨hc3, rfl⟩
 obtain ⟨hf1, hf2⟩ := find_idxM (fun s : SegM => decide (s.num = num)) L
 have hlt := idxM_lt (fun s : SegM => decide (s.num = num)) L
 replace hg4 := hg4.keep0 hc3
 have hc03 := hc02.trans' hc3
 unfold findM
 by_cases hneg : idxM (fun s : SegM => decide (s.num = num)) L < 0
 ·rw [hf1 hneg]
  refine go T 7 rfl ?_
  refine ltT rfl rfl rfl rfl (by omega) ?_
  refine go T 5 rfl ?_
  refine o1 rfl (op_build T rfl rfl rfl rfl rfl rfl ?_)
  refine op0 rfl rfl ?_
  refine op_store_agg T rfl rfl rfl rfl rfl rfl hg4 (by exact Nat.le_of_ble_eq_true rfl) (fun w4 hc4 hg4n _ => ?_)
  refine go T 5 rfl ?_
  exact post2c T (.inl rfl) rfl rfl rfl rfl rfl hg4n rfl ⟨hc03.trans hc4 (fun k hk hlt => by simp at hk; omega), _, rfl⟩
 ·obtain ⟨k, hk⟩ := Int.eq_ofNat_of_zero_le (show 0 ≤ idxM (fun s : SegM => decide (s.num = num)) L by omega)
  obtain ⟨x0, hx0, hpx0⟩ := idxM_at hneg
  rw [hf2 x0 hneg hx0, hk]
  rw [hk, Int.toNat_natCast] at hx0
  have hkl := (List.getElem?_eq_some_iff.1 hx0).1
  obtain ⟨ad, rfl, he⟩ := (hs.keepR hc03).at hx0
  refine go T 7 rfl ?_
  refine ltF rfl rfl rfl rfl (by omega) ?_
  refine go T 9 rfl ?_
  refine o1 rfl (op_indexK T rfl rfl rfl rfl rfl (by omega) ?_)
  refine o1 rfl (op_loadE T he rfl rfl rfl rfl rfl ?_)
  refine op0 rfl rfl ?_
  refine op_store_agg T rfl rfl rfl rfl rfl rfl hg4 (by exact Nat.le_of_ble_eq_true rfl) (fun w4 hc4 hg4n _ => ?_)
  refine go T 4 rfl ?_
  exact post2c T (.inl rfl) rfl rfl rfl rfl rfl hg4n rfl ⟨hc03.trans hc4 (fun k hk hlt => by simp at hk; omega), _, rfl⟩
theorem readS_has {w : World} {g : Nat} {s : FsM} {p : FsP} (x : FsAt w g s p) (nm : Nm) (size : Int) (sum : Nat) (hb : ∀ b, readM s nm = some b → b.length ≤ 4194304) :
  Has Tryz.prog 44 #[ptrV g, .string (str nm), .int .i64 size, .int .u32 (sum : Int)] w (fun v w' => Chg [] w w' ∧ ∃ u, v = .tuple #[u, .bool (readOk s nm size sum)] ∧ Own w' 5 1 u (bytesOf s nm).length (u8s (bytesOf s nm)) ∧ ∀ h, u.ownBlock = some h → w.heap.size ≤ h) := by
 refine enter Tryz.func44 rfl rfl (by decide) rfl (e := [(0, ptrV g), (1, .string (str nm)), (2, .int .i64 size), (3, .int .u32 (sum : Int))]) ⟨rfl, rfl, rfl, rfl, trivial⟩ ?_
 unfold ptrV
 refine run ?_
 refine go T 10 rfl ?_
 refine o1 rfl ?_
 refine op_call rfl rfl rfl (read_has g s p nm w x) ?_
 rintro v1 w1 ⟨hc1, h1⟩
 unfold readOk bytesOf
 cases hr : readM s nm with
 | none =>
  rw [hr] at h1
  obtain rfl : v1 = .tuple #[.slice none 0 0, .int .i64 3] := h1
  refine go T 11 rfl ?_
  refine eqF rfl rfl rfl rfl (by omega) ?_
  refine go T 17 rfl ?_
  exact post2 (.inl rfl) rfl rfl rfl ⟨hc1, _, rfl, Own.nil _ _ _, fun h hh => by simp [Value.ownBlock] at hh⟩
 | some b =>
  rw [hr] at h1
  have hbl := hb b hr
  obtain ⟨ub, rfl, hob, hfb⟩ : ∃ u, v1 = .tuple #[u, .int .i64 0] ∧ Own w1 5 1 u b.length (u8s b) ∧ ∀ h, u.ownBlock = some h → _ ≤ h := h1
  have hsb := hob.bytes
  obtain ⟨Ab, cb, rfl, _, _⟩ := hsb.form
  dsimp only
  by_cases hsz : (b.length : Int) = size
  ·rw [decide_eq_true hsz]
   refine go T 11 rfl ?_
   refine eqT rfl rfl rfl rfl (by omega) ?_
   refine go T 4 rfl ?_
   refine eqT rfl rfl rfl rfl (by omega) ?_
   refine go T 3 rfl ?_
   refine o1 rfl ?_
   refine op_call rfl rfl rfl (sumN_has Ab b.length cb b w1 hsb) ?_
   rintro _ w2 ⟨hc2, rfl⟩
   have hob2 := hob.keep0 hc2
   have hc02 := hc1.trans' hc2
   by_cases hsm : crcN b = sum
   ·rw [decide_eq_true hsm]
    refine go T 1 rfl ?_
    refine eqT rfl rfl rfl rfl (by omega) ?_
    refine go T 6 rfl ?_
    exact post2 (.inl rfl) rfl rfl rfl ⟨hc02, _, rfl, hob2, hfb⟩
   ·rw [decide_eq_false hsm]
    refine go T 1 rfl ?_
    refine eqF rfl rfl rfl rfl (by omega) ?_
    refine go T 6 rfl ?_
    exact post2 (.inl rfl) rfl rfl rfl ⟨hc02, _, rfl, hob2, hfb⟩
  ·rw [decide_eq_false hsz]
   refine go T 11 rfl ?_
   refine eqT rfl rfl rfl rfl (by omega) ?_
   refine go T 4 rfl ?_
   refine eqF rfl rfl rfl rfl (by omega) ?_
   refine go T 12 rfl ?_
   exact post2 (.inl rfl) rfl rfl rfl ⟨hc1, _, rfl, hob, hfb⟩
end Go.Proofs.YtiadjkjlifnopaaGreatDoor.Tryz
/-! Scrub: a group in memory. -/
namespace Go.Vc
open Go
structure GItem where
 seg : SegM
 b : List UInt8
 ok : Bool
def itemM (s : FsM) (L : List SegM) (n : Int) : GItem := ⟨findM L n, bytesOf s (fileNm (findM L n)), readOk s (fileNm (findM L n)) (findM L n).size (findM L n).sum⟩
def badM (I : List GItem) : Nat := (I.filter fun i => !i.ok).length
def boolV (b : Bool) : Value := .bool b
end Go.Vc
namespace Go.Proofs.YtiadjkjlifnopaaGreatDoor.Tryz
open Go Go.Vc
def OwnB (b0 : Nat) (w : World) (v : Value) (L : List (List UInt8)) : Prop :=
 ∃ us : List Value, us.length = L.length ∧ Own w 51 1 v us.length (us.map id) ∧ ∀ (i : Nat) b u, L[i]? = some b → us[i]? = some u → Own w 5 1 u b.length (u8s b) ∧ ∀ h, u.ownBlock = some h → b0 ≤ h
theorem OwnB.nil (b0 : Nat) (w : World) : OwnB b0 w (.slice none 0 0) [] := ⟨[], rfl, Own.nil _ _ _, fun i b u h => by simp at h⟩
theorem OwnB.keep {b0 : Nat} {w w' : World} {v : Value} {L : List (List UInt8)} {S : List Nat} (h : OwnB b0 w v L) (hc : Chg S w w') (h1 : ∀ k, v.ownBlock = some k → k ∉ S) (h2 : ∀ k ∈ S, ∀ cs, ¬ Blk w k 5 cs ∨ k < b0) : OwnB b0 w' v L := by
 obtain ⟨us, h3, h4, h5⟩ := h
 refine ⟨us, h3, h4.keep hc h1, fun i b u hb hu => ?_⟩
 obtain ⟨h6, h7⟩ := h5 i b u hb hu
 refine ⟨h6.keep hc (fun k hk hm => ?_), h7⟩
 obtain ⟨cs, hcs⟩ := h6.row hk
 rcases h2 k hm cs with h | h
 ·exact h hcs
 ·have := h7 k hk; omega
theorem OwnB.keep0 {b0 : Nat} {w w' : World} {v : Value} {L : List (List UInt8)} (h : OwnB b0 w v L) (hc : Chg [] w w') : OwnB b0 w' v L := h.keep hc (fun k _ => by simp) (fun k hk => by cases hk)
theorem OwnB.lt {b0 : Nat} {w : World} {v : Value} {L : List (List UInt8)} (h : OwnB b0 w v L) {k : Nat} (hk : v.ownBlock = some k) : k < w.heap.size := let ⟨_, _, h, _⟩ := h; h.lt hk
theorem OwnB.row {b0 : Nat} {w : World} {v : Value} {L : List (List UInt8)} (h : OwnB b0 w v L) {k : Nat} (hk : v.ownBlock = some k) : ∃ cs, Blk w k 51 cs := let ⟨_, _, h, _⟩ := h; h.row hk
theorem OwnB.reads {b0 : Nat} {w : World} {v : Value} {L : List (List UInt8)} (h : OwnB b0 w v L) : SliceOf (SliceOf Ru8) w v L := by
 obtain ⟨us, h3, h4, h5⟩ := h
 rw [h3] at h4
 refine h4.reads rfl (fun i x u hx hu => ?_)
 rw [List.map_id] at hu
 exact (h5 i x u hx hu).1.bytes
theorem OwnB.one {b0 : Nat} {w : World} {v : Value} {L : List (List UInt8)} (h : OwnB b0 w v L) : v.oneCell' = true := let ⟨_, _, h, _⟩ := h; own_one h
structure R4 (b0 : Nat) (w : World) (vs vl vz vo : Value) (Ls : List SegM) (Lb : List (List UInt8)) (Lz : List Int) (Lo : List Bool) : Prop where
 segs : Own w 26 6 vs Ls.length (Ls.flatMap segL)
 rows : OwnB b0 w vl Lb
 sizes : Own w 3 1 vz Lz.length (Lz.map i64V)
 lost : Own w 4 1 vo Lo.length (Lo.map boolV)
 frs : ∀ k, vs.ownBlock = some k → b0 ≤ k
 frl : ∀ k, vl.ownBlock = some k → b0 ≤ k
 frz : ∀ k, vz.ownBlock = some k → b0 ≤ k
 fro : ∀ k, vo.ownBlock = some k → b0 ≤ k
section
variable {b0 : Nat} {w w' : World} {vs vl vz vo v : Value} {Ls Ls' : List SegM} {Lb Lb' : List (List UInt8)} {Lz Lz' : List Int} {Lo Lo' : List Bool}
theorem R4.keep0 (h : R4 b0 w vs vl vz vo Ls Lb Lz Lo) (hc : Chg [] w w') : R4 b0 w' vs vl vz vo Ls Lb Lz Lo := ⟨h.segs.keep0 hc, h.rows.keep0 hc, h.sizes.keep0 hc, h.lost.keep0 hc, h.frs, h.frl, h.frz, h.fro⟩
theorem R4.keepO {S : List Nat} (h : R4 b0 w vs vl vz vo Ls Lb Lz Lo) (hc : Chg S w w') (hS : ∀ k ∈ S, k < b0 ∨ ∃ t cs, Blk w k t cs ∧ t ≠ 26 ∧ t ≠ 51 ∧ t ≠ 5 ∧ t ≠ 3 ∧ t ≠ 4) : R4 b0 w' vs vl vz vo Ls Lb Lz Lo := by
 have out : ∀ {t : TypeId} {k : Nat} {u : Value} {cs : List Value}, Blk w k t cs → b0 ≤ k → t = 26 ∨ t = 51 ∨ t = 5 ∨ t = 3 ∨ t = 4 → k ∉ S := fun {t k u cs} hb hk ht hm => by
  rcases hS k hm with h | ⟨t', cs', hb', h1, h2, h3, h4, h5⟩
  ·omega
  ·have hne : t ≠ t' := by rcases ht with rfl | rfl | rfl | rfl | rfl <;> (intro e; subst e; contradiction)
   exact hb.ne_ hb' hne rfl
 refine ⟨h.segs.keep hc (fun k hk => ?_), h.rows.keep hc (fun k hk => ?_) (fun k hk cs => ?_), h.sizes.keep hc (fun k hk => ?_), h.lost.keep hc (fun k hk => ?_), h.frs, h.frl, h.frz, h.fro⟩
 ·obtain ⟨cs, hb⟩ := h.segs.row hk
  exact out (u := vs) hb (h.frs k hk) (.inl rfl)
 ·obtain ⟨cs, hb⟩ := h.rows.row hk
  exact out (u := vs) hb (h.frl k hk) (.inr (.inl rfl))
 ·rcases Nat.lt_or_ge k b0 with hlt | hge
  ·exact .inr hlt
  ·refine .inl fun hb => out (u := vs) hb hge (.inr (.inr (.inl rfl))) hk
 ·obtain ⟨cs, hb⟩ := h.sizes.row hk
  exact out (u := vs) hb (h.frz k hk) (.inr (.inr (.inr (.inl rfl))))
 ·obtain ⟨cs, hb⟩ := h.lost.row hk
  exact out (u := vs) hb (h.fro k hk) (.inr (.inr (.inr (.inr rfl))))
theorem R4.pushS (h : R4 b0 w vs vl vz vo Ls Lb Lz Lo) (ho : Own w' 26 6 v Ls'.length (Ls'.flatMap segL)) (hc : Chg vs.ownBlock.toList w w') (hb : v.ownBlock = vs.ownBlock ∨ ∃ k, v.ownBlock = some k ∧ w.heap.size ≤ k) (hz : b0 ≤ w.heap.size) : R4 b0 w' v vl vz vo Ls' Lb Lz Lo := by
 have mine : ∀ k ∈ vs.ownBlock.toList, ∃ cs, Blk w k 26 cs := fun k hk => h.segs.row (by simpa using hk)
 refine ⟨ho, h.rows.keep hc (fun k hk hm => ?_) (fun k hk cs => .inl fun hx => ?_), h.sizes.keep hc (fun k hk hm => ?_), h.lost.keep hc (fun k hk hm => ?_), fun k hk => ?_, h.frl, h.frz, h.fro⟩
 ·obtain ⟨c1, h1⟩ := mine k hm; obtain ⟨c2, h2⟩ := h.rows.row hk; exact h1.ne_ h2 (by decide) rfl
 ·obtain ⟨c1, h1⟩ := mine k hk; exact h1.ne_ hx (by decide) rfl
 ·obtain ⟨c1, h1⟩ := mine k hm; obtain ⟨c2, h2⟩ := h.sizes.row hk; exact h1.ne_ h2 (by decide) rfl
 ·obtain ⟨c1, h1⟩ := mine k hm; obtain ⟨c2, h2⟩ := h.lost.row hk; exact h1.ne_ h2 (by decide) rfl
 ·rcases hb with h1 | ⟨k', h1, h2⟩
  ·exact h.frs k (by rw [← h1]; exact hk)
  ·rw [h1] at hk; injection hk with hk; omega
theorem R4.pushB (h : R4 b0 w vs vl vz vo Ls Lb Lz Lo) (ho : OwnB b0 w' v Lb') (hc : Chg vl.ownBlock.toList w w') (hb : v.ownBlock = vl.ownBlock ∨ ∃ k, v.ownBlock = some k ∧ w.heap.size ≤ k) (hz : b0 ≤ w.heap.size) : R4 b0 w' vs v vz vo Ls Lb' Lz Lo := by
 have mine : ∀ k ∈ vl.ownBlock.toList, ∃ cs, Blk w k 51 cs := fun k hk => h.rows.row (by simpa using hk)
 refine ⟨h.segs.keep hc (fun k hk hm => ?_), ho, h.sizes.keep hc (fun k hk hm => ?_), h.lost.keep hc (fun k hk hm => ?_), h.frs, fun k hk => ?_, h.frz, h.fro⟩
 ·obtain ⟨c1, h1⟩ := mine k hm; obtain ⟨c2, h2⟩ := h.segs.row hk; exact h1.ne_ h2 (by decide) rfl
 ·obtain ⟨c1, h1⟩ := mine k hm; obtain ⟨c2, h2⟩ := h.sizes.row hk; exact h1.ne_ h2 (by decide) rfl
 ·obtain ⟨c1, h1⟩ := mine k hm; obtain ⟨c2, h2⟩ := h.lost.row hk; exact h1.ne_ h2 (by decide) rfl
 ·rcases hb with h1 | ⟨k', h1, h2⟩
  ·exact h.frl k (by rw [← h1]; exact hk)
  ·rw [h1] at hk; injection hk with hk; omega
theorem R4.pushZ (h : R4 b0 w vs vl vz vo Ls Lb Lz Lo) (ho : Own w' 3 1 v Lz'.length (Lz'.map i64V)) (hc : Chg vz.ownBlock.toList w w') (hb : v.ownBlock = vz.ownBlock ∨ ∃ k, v.ownBlock = some k ∧ w.heap.size ≤ k) (hz : b0 ≤ w.heap.size) : R4 b0 w' vs vl v vo Ls Lb Lz' Lo := by
 have mine : ∀ k ∈ vz.ownBlock.toList, ∃ cs, Blk w k 3 cs := fun k hk => h.sizes.row (by simpa using hk)
 refine ⟨h.segs.keep hc (fun k hk hm => ?_), h.rows.keep hc (fun k hk hm => ?_) (fun k hk cs => .inl fun hx => ?_), ho, h.lost.keep hc (fun k hk hm => ?_), h.frs, h.frl, fun k hk => ?_, h.fro⟩
 ·obtain ⟨c1, h1⟩ := mine k hm; obtain ⟨c2, h2⟩ := h.segs.row hk; exact h1.ne_ h2 (by decide) rfl
 ·obtain ⟨c1, h1⟩ := mine k hm; obtain ⟨c2, h2⟩ := h.rows.row hk; exact h1.ne_ h2 (by decide) rfl
 ·obtain ⟨c1, h1⟩ := mine k hk; exact h1.ne_ hx (by decide) rfl
 ·obtain ⟨c1, h1⟩ := mine k hm; obtain ⟨c2, h2⟩ := h.lost.row hk; exact h1.ne_ h2 (by decide) rfl
 ·rcases hb with h1 | ⟨k', h1, h2⟩
  ·exact h.frz k (by rw [← h1]; exact hk)
  ·rw [h1] at hk; injection hk with hk; omega
theorem R4.pushO (h : R4 b0 w vs vl vz vo Ls Lb Lz Lo) (ho : Own w' 4 1 v Lo'.length (Lo'.map boolV)) (hc : Chg vo.ownBlock.toList w w') (hb : v.ownBlock = vo.ownBlock ∨ ∃ k, v.ownBlock = some k ∧ w.heap.size ≤ k) (hz : b0 ≤ w.heap.size) : R4 b0 w' vs vl vz v Ls Lb Lz Lo' := by
 have mine : ∀ k ∈ vo.ownBlock.toList, ∃ cs, Blk w k 4 cs := fun k hk => h.lost.row (by simpa using hk)
 refine ⟨h.segs.keep hc (fun k hk hm => ?_), h.rows.keep hc (fun k hk hm => ?_) (fun k hk cs => .inl fun hx => ?_), h.sizes.keep hc (fun k hk hm => ?_), ho, h.frs, h.frl, h.frz, fun k hk => ?_⟩
 ·obtain ⟨c1, h1⟩ := mine k hm; obtain ⟨c2, h2⟩ := h.segs.row hk; exact h1.ne_ h2 (by decide) rfl
 ·obtain ⟨c1, h1⟩ := mine k hm; obtain ⟨c2, h2⟩ := h.rows.row hk; exact h1.ne_ h2 (by decide) rfl
 ·obtain ⟨c1, h1⟩ := mine k hk; exact h1.ne_ hx (by decide) rfl
 ·obtain ⟨c1, h1⟩ := mine k hm; obtain ⟨c2, h2⟩ := h.sizes.row hk; exact h1.ne_ h2 (by decide) rfl
 ·rcases hb with h1 | ⟨k', h1, h2⟩
  ·exact h.fro k (by rw [← h1]; exact hk)
  ·rw [h1] at hk; injection hk with hk; omega
end
end Go.Proofs.YtiadjkjlifnopaaGreatDoor.Tryz
/-! Scrub: open. -/
namespace Go.Proofs.YtiadjkjlifnopaaGreatDoor.Tryz
open Go Go.Vc
structure GrpAt (b0 : Nat) (w : World) (gg : Nat) (vs vl vz vo : Value) (I : List GItem) : Prop where
 blk : Blk w gg 81 [vs, vl, vz, vo, .int .i64 (badM I : Nat)]
 rows : R4 b0 w vs vl vz vo (I.map (·.seg)) (I.map (·.b)) (I.map fun i => i.seg.size) (I.map fun i => !i.ok)
 fr : b0 ≤ gg
def opJ (b0 gg : Nat) (vs vl vz vo : Value) (bad : Int) (I : List GItem) (y : GItem) : List Value → World → Prop
 | [], w => Blk w gg 81 [vs, vl, vz, vo, .int .i64 bad] ∧ R4 b0 w vs vl vz vo (I.map (·.seg)) (I.map (·.b)) (I.map fun i => i.seg.size) (I.map fun i => !i.ok)
 | [a], w => Blk w gg 81 [vs, vl, vz, vo, .int .i64 bad] ∧ R4 b0 w a vl vz vo ((I ++ [y]).map (·.seg)) (I.map (·.b)) (I.map fun i => i.seg.size) (I.map fun i => !i.ok)
 | [a, b], w => Blk w gg 81 [vs, vl, vz, vo, .int .i64 bad] ∧ R4 b0 w a b vz vo ((I ++ [y]).map (·.seg)) ((I ++ [y]).map (·.b)) (I.map fun i => i.seg.size) (I.map fun i => !i.ok)
 | [a, b, c], w => Blk w gg 81 [vs, vl, vz, vo, .int .i64 bad] ∧ R4 b0 w a b c vo ((I ++ [y]).map (·.seg)) ((I ++ [y]).map (·.b)) ((I ++ [y]).map fun i => i.seg.size) (I.map fun i => !i.ok)
 | [a, b, c, d], w => Blk w gg 81 [vs, vl, vz, vo, .int .i64 bad] ∧ R4 b0 w a b c d ((I ++ [y]).map (·.seg)) ((I ++ [y]).map (·.b)) ((I ++ [y]).map fun i => i.seg.size) ((I ++ [y]).map fun i => !i.ok)
 | [a, b, c, d, _], w => Blk w gg 81 [a, vl, vz, vo, .int .i64 bad] ∧ R4 b0 w a b c d ((I ++ [y]).map (·.seg)) ((I ++ [y]).map (·.b)) ((I ++ [y]).map fun i => i.seg.size) ((I ++ [y]).map fun i => !i.ok)
 | [a, b, c, d, _, _], w => Blk w gg 81 [a, b, vz, vo, .int .i64 bad] ∧ R4 b0 w a b c d ((I ++ [y]).map (·.seg)) ((I ++ [y]).map (·.b)) ((I ++ [y]).map fun i => i.seg.size) ((I ++ [y]).map fun i => !i.ok)
 | [a, b, c, d, _, _, _], w => Blk w gg 81 [a, b, c, vo, .int .i64 bad] ∧ R4 b0 w a b c d ((I ++ [y]).map (·.seg)) ((I ++ [y]).map (·.b)) ((I ++ [y]).map fun i => i.seg.size) ((I ++ [y]).map fun i => !i.ok)
 | [a, b, c, d, _, _, _, _], w => Blk w gg 81 [a, b, c, d, .int .i64 bad] ∧ R4 b0 w a b c d ((I ++ [y]).map (·.seg)) ((I ++ [y]).map (·.b)) ((I ++ [y]).map fun i => i.seg.size) ((I ++ [y]).map fun i => !i.ok)
 | _, _ => False
theorem opJ_firm {b0 gg : Nat} {vs vl vz vo : Value} {bad : Int} {I : List GItem} {y : GItem} : ∀ (us : List Value) (w w' : World), opJ b0 gg vs vl vz vo bad I y us w → Chg [] w w' → opJ b0 gg vs vl vz vo bad I y us w'
 | [], w, w', h, hc => ⟨h.1.keep0 hc, h.2.keep0 hc⟩
 | [a], w, w', h, hc => ⟨h.1.keep0 hc, h.2.keep0 hc⟩
 | [a, b], w, w', h, hc => ⟨h.1.keep0 hc, h.2.keep0 hc⟩
 | [a, b, c], w, w', h, hc => ⟨h.1.keep0 hc, h.2.keep0 hc⟩
 | [a, b, c, d], w, w', h, hc => ⟨h.1.keep0 hc, h.2.keep0 hc⟩
 | [a, b, c, d, _], w, w', h, hc => ⟨h.1.keep0 hc, h.2.keep0 hc⟩
 | [a, b, c, d, _, _], w, w', h, hc => ⟨h.1.keep0 hc, h.2.keep0 hc⟩
 | [a, b, c, d, _, _, _], w, w', h, hc => ⟨h.1.keep0 hc, h.2.keep0 hc⟩
 | [a, b, c, d, _, _, _, _], w, w', h, hc => ⟨h.1.keep0 hc, h.2.keep0 hc⟩
 | _ :: _ :: _ :: _ :: _ :: _ :: _ :: _ :: _ :: _, w, w', h, hc => h.elim
theorem list0 {us : List Value} (h : us.length = 0) : us = [] := List.eq_nil_of_length_eq_zero h
theorem list1 {us : List Value} (h : us.length = 1) : ∃ a, us = [a] := by
 match us, h with
 | [a], _ => exact ⟨a, rfl⟩
theorem list2 {us : List Value} (h : us.length = 2) : ∃ a b, us = [a, b] := by
 match us, h with
 | [a, b], _ => exact ⟨a, b, rfl⟩
theorem list3 {us : List Value} (h : us.length = 3) : ∃ a b c, us = [a, b, c] := by
 match us, h with
 | [a, b, c], _ => exact ⟨a, b, c, rfl⟩
theorem list4 {us : List Value} (h : us.length = 4) : ∃ a b c d, us = [a, b, c, d] := by
 match us, h with
 | [a, b, c, d], _ => exact ⟨a, b, c, d, rfl⟩
theorem list5 {us : List Value} (h : us.length = 5) : ∃ a b c d e, us = [a, b, c, d, e] := by
 match us, h with
 | [a, b, c, d, e], _ => exact ⟨a, b, c, d, e, rfl⟩
theorem list6 {us : List Value} (h : us.length = 6) : ∃ a b c d e f, us = [a, b, c, d, e, f] := by
 match us, h with
 | [a, b, c, d, e, f], _ => exact ⟨a, b, c, d, e, f, rfl⟩
theorem list7 {us : List Value} (h : us.length = 7) : ∃ a b c d e f g, us = [a, b, c, d, e, f, g] := by
 match us, h with
 | [a, b, c, d, e, f, g], _ => exact ⟨a, b, c, d, e, f, g, rfl⟩
theorem list8 {us : List Value} (h : us.length = 8) : ∃ a b c d e f g i, us = [a, b, c, d, e, f, g, i] := by
 match us, h with
 | [a, b, c, d, e, f, g, i], _ => exact ⟨a, b, c, d, e, f, g, i, rfl⟩
theorem opJ_blk {b0 gg : Nat} {vs vl vz vo : Value} {bad : Int} {I : List GItem} {y : GItem} {us : List Value} {w : World} (h : opJ b0 gg vs vl vz vo bad I y us w) (hl : us.length ≤ 4) : Blk w gg 81 [vs, vl, vz, vo, .int .i64 bad] := by
 match us, hl with
 | [], _ => exact h.1
 | [a], _ => exact h.1
 | [a, b], _ => exact h.1
 | [a, b, c], _ => exact h.1
 | [a, b, c, d], _ => exact h.1
set_option maxHeartbeats 16000000 in
theorem open_has {w : World} {g : Nat} {s : FsM} {p : FsP} (x : FsAt w g s p) (A : Option Addr) (n c : Nat) (L : List SegM) (B : Option Addr) (m d : Nat) (ns : List Int) (hs : SliceK 6 (RdL segL) w (.slice A n c) L) (hn : SliceOf Ri64 w (.slice B m d) ns)
  (hL : ∀ y ∈ L, 0 ≤ y.num ∧ y.num < 100) (hb : ∀ nm b, readM s nm = some b → b.length ≤ 4194304) (hlen : ns.length ≤ 1000) :
  Has Tryz.prog 42 #[ptrV g, .slice A n c, .slice B m d] w (fun v w' => Chg [] w w' ∧ ∃ gg vs vl vz vo, v = .pointer (some ⟨gg, 0, none⟩) ∧ GrpAt w.heap.size w' gg vs vl vz vo (ns.map (itemM s L))) := by
 obtain ⟨rfl, hl1, hl2⟩ := hs.len
 obtain ⟨rfl, hm1, hm2⟩ := hn.len
 unfold maxLen at hl2 hm2
 refine enter Tryz.func42 rfl rfl (by decide) rfl (e := [(0, ptrV g), (1, .slice A L.length c), (2, .slice B ns.length d)]) ⟨rfl, rfl, rfl, trivial⟩ ?_
 unfold ptrV
 refine run ?_
 refine go T 7 rfl ?_
 refine o1 rfl (op_build T rfl rfl rfl rfl rfl rfl ?_)
 refine o1 rfl ?_
 refine op_box rfl rfl (fun gg w1 hs1 hc1 hgg => ?_)
 have hgg : Blk w1 gg 81 [.slice none 0 0, .slice none 0 0, .slice none 0 0, .slice none 0 0, .int .i64 0] := hgg
 have hs1 : w.heap.size ≤ gg := hs1
 refine go T 12 rfl ?_
 refine W_loop (σ := Nat × Value × Value × Value × Value) (fun t => [(0, .pointer (some ⟨g, 0, none⟩)), (1, .slice A L.length c), (7, .pointer (some ⟨gg, 0, none⟩)), (16, .slice B ns.length d), (17, .int .i64 ns.length), (18, .int .i64 t.1)])
  (fun t w' => t.1 ≤ ns.length ∧ Chg [] w w' ∧ GrpAt w.heap.size w' gg t.2.1 t.2.2.1 t.2.2.2.1 t.2.2.2.2 ((ns.take t.1).map (itemM s L)))
  (fun t => ns.length - t.1) (0, .slice none 0 0, .slice none 0 0, .slice none 0 0, .slice none 0 0) ⟨rfl, rfl, rfl, rfl, rfl, rfl, trivial⟩ ⟨Nat.zero_le _, hc1, hgg, ⟨Own.nil _ _ _, OwnB.nil _ _, Own.nil _ _ _, Own.nil _ _ _, fun k hk => by simp [Value.ownBlock] at hk, fun k hk => by simp [Value.ownBlock] at hk, fun k hk => by simp [Value.ownBlock] at hk, fun k hk => by simp [Value.ownBlock] at hk⟩, hs1⟩ ?_
 rintro ⟨i, vs, vl, vz, vo⟩ w2 ⟨hi, hc2, G2⟩
 dsimp only at hi G2 ⊢
 refine run ?_
 refine go T 2 rfl ?_
 refine ltS rfl rfl rfl rfl (fun hcmp => ?_) (fun hcmp => ?_)
 ·have hlt : i < ns.length := by omega
  have hx := List.getElem?_eq_getElem hlt
  obtain ⟨ad, u, rfl, hu, hur⟩ := (SliceOf.kept Ri64.kept _ _ _ _ hc2 hn).get hx
  obtain ⟨rfl, hu1, hu2⟩ := hur
  have hnx : (ns.take (i + 1)).map (itemM s L) = (ns.take i).map (itemM s L) ++ [itemM s L ns[i]] := by
   rw [List.take_add_one, hx, List.map_append]; rfl
  have hIl : ((ns.take i).map (itemM s L)).length ≤ 1000 := by rw [List.length_map, List.length_take]; omega
  generalize (ns.take i).map (itemM s L) = I at *
  generalize hnum : ns[i] = num at *
  have hL2 : 0 ≤ (findM L num).num ∧ (findM L num).num < 100 := by
   unfold findM
   cases hfd : L.find? fun s => decide (s.num = num) with
   | none => exact ⟨by decide, by decide⟩
   | some y => exact hL y (List.mem_of_find?_eq_some hfd)
  refine go T 10 rfl ?_
  refine o1 rfl (op_index_nat T rfl rfl rfl rfl rfl rfl (by omega) ?_)
  refine o1 rfl (op_load T rfl rfl rfl rfl (by assumption) ?_)
  refine go T 7 rfl ?_
  refine o1 rfl ?_
  refine op_call rfl rfl rfl (find_has A L.length c L num w2 (hs.keepR hc2)) ?_
  rintro _ w3 ⟨hc3, bb, rfl⟩
  have hit : itemM s L num = ⟨findM L num, bytesOf s (fileNm (findM L num)), readOk s (fileNm (findM L num)) (findM L num).size (findM L num).sum⟩ := rfl
  rw [hit] at hnx
  clear hit
  generalize findM L num = y at *
  refine go T 3 rfl ?_
  refine o1 rfl ?_
  refine op_alloc T rfl rfl (fun g10 w4 hs4 hc4 hg10 => ?_)
  have hg10 : Blk w4 g10 26 [.int .i64 0, .bool false, .int .i64 0, .int .i64 0, .int .i64 0, .int .u32 0] := hg10
  have hs4 : w3.heap.size ≤ g10 := hs4
  refine op0 rfl rfl ?_
  refine op_store_agg T rfl rfl rfl rfl rfl rfl hg10 (by exact Nat.le_of_ble_eq_true rfl) (fun w5 hc5 hg10n _ => ?_)
  replace hg10 : Blk w5 g10 26 (segL y) := hg10n
  have hc35 : Chg [] w3 w5 := hc4.trans hc5 (fun k hk hlt => by simp at hk; omega)
  have hc25 := hc3.trans' hc35
  have hc05 := hc2.trans' hc25
  have x5 := x.keep0 hc05
  have G5b := G2.blk.keep0 hc25
  have G5r := G2.rows.keep0 hc25
  have hg10' := hg10
  unfold segL at hg10'
  clear hg10n
  have hz5 := hc05.size
  obtain ⟨nm, hnm⟩ : ∃ nm, nm = fileNm y := ⟨_, rfl⟩
  rw [← hnm] at hnx
  generalize hok : readOk s nm y.size y.sum = ok at *
  generalize hby : bytesOf s nm = by_ at *
  refine go T 4 rfl ?_
  refine W_walk 12 [] fol (by kernel_rfl) (by kernel_rfl) ?_
  refine Walk.plain rfl (by intro val w_ hR hp; exact op_move rfl rfl ⟨Chg.refl _ _, rfl⟩) ?_; dsimp only [na1, na2]
  refine Walk.plain rfl (by intro val w_ hR hp; exact op_load_agg T rfl rfl rfl rfl (hg10'.keep0 hR) (by exact Nat.le_of_ble_eq_true rfl) (by exact rfl) ⟨Chg.refl _ _, rfl⟩) ?_; dsimp only [na1, na2]
  refine Walk.plain (v := .string (str nm)) rfl (by intro val w_ hR hp; exact op_call rfl rfl rfl (file_has y w_ hL2.1 hL2.2) (fun v w' h => by rw [hnm]; exact h)) ?_; dsimp only [na1, na2]
  refine Walk.plain rfl (by intro val w_ hR hp; exact op_fieldAddr T rfl rfl rfl rfl rfl rfl rfl rfl ⟨Chg.refl _ _, rfl⟩) ?_; dsimp only [na1, na2]
  refine Walk.plain rfl (by intro val w_ hR hp; exact op_loadB T rfl rfl rfl rfl (hg10'.keep0 hR) (by exact rfl) ⟨Chg.refl _ _, rfl⟩) ?_; dsimp only [na1, na2]
  refine Walk.plain rfl (by intro val w_ hR hp; exact op_fieldAddr T rfl rfl rfl rfl rfl rfl rfl rfl ⟨Chg.refl _ _, rfl⟩) ?_; dsimp only [na1, na2]
  refine Walk.plain rfl (by intro val w_ hR hp; exact op_loadB T rfl rfl rfl rfl (hg10'.keep0 hR) (by exact rfl) ⟨Chg.refl _ _, rfl⟩) ?_; dsimp only [na1, na2]
  refine Walk.rel (fun v w' => ∃ u, v = .tuple #[u, .bool ok] ∧ Own w' 5 1 u by_.length (u8s by_) ∧ ∀ h, u.ownBlock = some h → w5.heap.size ≤ h) rfl (fun v w w' h hab => let ⟨u, h1, h2, h3⟩ := h; ⟨u, h1, h2.keep0 hab, h3⟩) (by intro val w_ hR hp; exact op_call rfl rfl rfl (readS_has (x5.keep0 hR) nm y.size y.sum (hb nm)) (fun v w' h => let ⟨h0, u, h1, h2, h3⟩ := h; ⟨h0, u, by rw [← hok]; exact h1, by rw [← hby]; exact h2, fun k hk => by have := h3 k hk; have := hR.size; omega⟩)) ?_; dsimp only [na1, na2]
  refine Walk.rel (fun v w' => ∃ u, v = .tuple #[u, .bool ok] ∧ Own w' 5 1 u by_.length (u8s by_) ∧ ∀ h, u.ownBlock = some h → w5.heap.size ≤ h) rfl (fun v w w' h hab => let ⟨u, h1, h2, h3⟩ := h; ⟨u, h1, h2.keep0 hab, h3⟩) (by intro val w_ hR hp; exact op_move rfl rfl ⟨Chg.refl _ _, hp 7 rfl _ _ rfl rfl⟩) ?_; dsimp only [na1, na2]
  refine Walk.rel (fun v w' => Own w' 5 1 v by_.length (u8s by_) ∧ ∀ h, v.ownBlock = some h → w5.heap.size ≤ h) rfl (fun v w w' h hab => ⟨h.1.keep0 hab, h.2⟩) (by intro val w_ hR hp; exact (by obtain ⟨u, h1, h2⟩ := hp 8 rfl _ _ rfl rfl; have h1 : val 8 = _ := h1; exact op_extract rfl (show some (val 8) = _ by rw [h1]) rfl ⟨Chg.refl _ _, h2⟩)) ?_; dsimp only [na1, na2]
  refine Walk.plain (v := .bool ok) rfl (by intro val w_ hR hp; exact (by obtain ⟨u, h1, h2⟩ := hp 8 rfl _ _ rfl rfl; have h1 : val 8 = _ := h1; exact op_extract rfl (show some (val 8) = _ by rw [h1]) rfl ⟨Chg.refl _ _, rfl⟩)) ?_; dsimp only [na1, na2]
  refine Walk.rel (fun v w' => Own w' 5 1 v by_.length (u8s by_) ∧ ∀ h, v.ownBlock = some h → w5.heap.size ≤ h) rfl (fun v w w' h hab => ⟨h.1.keep0 hab, h.2⟩) (by intro val w_ hR hp; exact op_assign rfl rfl ⟨Chg.refl _ _, hp 9 rfl _ _ rfl rfl⟩) ?_; dsimp only [na1, na2]
  refine Walk.fin ?_
  intro val w6 hc6 hp
  obtain ⟨ho6, hf6⟩ : Own w6 5 1 (val 11) by_.length (u8s by_) ∧ ∀ h, (val 11).ownBlock = some h → w5.heap.size ≤ h := hp 11 (by omega) _ _ rfl rfl
  clear hp
  refine WL_sub (e' := [(0, .pointer (some ⟨g, 0, none⟩)), (1, .slice A L.length c), (7, .pointer (some ⟨gg, 0, none⟩)), (10, .pointer (some ⟨g10, 0, none⟩)), (12, val 11), (16, .slice (some ad) ns.length d), (17, .int .i64 ns.length), (18, .int .i64 i), (38, .bool ok)]) ⟨rfl, rfl, rfl, rfl, rfl, rfl, rfl, rfl, rfl, trivial⟩ ?_
  generalize val 11 = u at *
  obtain ⟨Au, cu, rfl, _, _⟩ := ho6.form
  have hg6 := hg10.keep0 hc6
  have hg6' := hg10'.keep0 hc6
  have G6b := G5b.keep0 hc6
  have G6r := G5r.keep0 hc6
  have hc06 := hc05.trans' hc6
  have hz6 := hc06.size
  have hz56 := hc6.size
  have hS5 : ∀ k ∈ vs.ownBlock.toList ++ vl.ownBlock.toList ++ vz.ownBlock.toList ++ vo.ownBlock.toList ++ [gg], k < w5.heap.size := fun k hk => by
   simp only [List.mem_append, List.mem_singleton] at hk
   rcases hk with (((h | h) | h) | h) | h
   ·exact G5r.segs.lt (by simpa using h)
   ·exact G5r.rows.lt (by simpa using h)
   ·exact G5r.sizes.lt (by simpa using h)
   ·exact G5r.lost.lt (by simpa using h)
   ·rw [h]; exact G5b.lt
  refine runL ?_
  refine go T 4 rfl ?_
  obtain ⟨S, hS⟩ : ∃ S : List Nat, S = vs.ownBlock.toList ++ vl.ownBlock.toList ++ vz.ownBlock.toList ++ vo.ownBlock.toList ++ [gg] := ⟨_, rfl⟩
  have hSs : ∀ k ∈ vs.ownBlock.toList, k ∈ S := fun k hk => by rw [hS]; simp only [List.mem_append]; exact .inl (.inl (.inl (.inl hk)))
  have hSl : ∀ k ∈ vl.ownBlock.toList, k ∈ S := fun k hk => by rw [hS]; simp only [List.mem_append]; exact .inl (.inl (.inl (.inr hk)))
  have hSz : ∀ k ∈ vz.ownBlock.toList, k ∈ S := fun k hk => by rw [hS]; simp only [List.mem_append]; exact .inl (.inl (.inr hk))
  have hSo : ∀ k ∈ vo.ownBlock.toList, k ∈ S := fun k hk => by rw [hS]; simp only [List.mem_append]; exact .inl (.inr hk)
  have hSg : gg ∈ S := by rw [hS]; simp
  rw [← hS] at hS5
  have hSc : ∀ k ∈ S, k ∈ vs.ownBlock.toList ∨ k ∈ vl.ownBlock.toList ∨ k ∈ vz.ownBlock.toList ∨ k ∈ vo.ownBlock.toList ∨ k = gg := fun k hk => by
   rw [hS] at hk
   simp only [List.mem_append, List.mem_singleton] at hk
   rcases hk with (((h | h) | h) | h) | h
   ·exact .inl h
   ·exact .inr (.inl h)
   ·exact .inr (.inr (.inl h))
   ·exact .inr (.inr (.inr (.inl h)))
   ·exact .inr (.inr (.inr (.inr h)))
  have hSlt : ∀ k ∈ S, k < w6.heap.size := fun k hk => by
   rcases hSc k hk with h | h | h | h | h
   ·exact G6r.segs.lt (by simpa using h)
   ·exact G6r.rows.lt (by simpa using h)
   ·exact G6r.sizes.lt (by simpa using h)
   ·exact G6r.lost.lt (by simpa using h)
   ·rw [h]; exact G6b.lt
  have hSge : ∀ k ∈ S, w.heap.size ≤ k := fun k hk => by
   rcases hSc k hk with h | h | h | h | h
   ·exact G6r.frs k (by simpa using h)
   ·exact G6r.frl k (by simpa using h)
   ·exact G6r.frz k (by simpa using h)
   ·exact G6r.fro k (by simpa using h)
   ·rw [h]; exact G2.fr
  have h10S : g10 ∉ S := fun hk => by
   rcases hSc g10 hk with h | h | h | h | h
   ·obtain ⟨cs, h1⟩ := G5r.segs.row (show vs.ownBlock = some g10 by simpa using h)
    have := G2.rows.segs.lt (show vs.ownBlock = some g10 by simpa using h)
    have := hc3.size
    omega
   ·have := G2.rows.rows.lt (show vl.ownBlock = some g10 by simpa using h)
    have := hc3.size
    omega
   ·have := G2.rows.sizes.lt (show vz.ownBlock = some g10 by simpa using h)
    have := hc3.size
    omega
   ·have := G2.rows.lost.lt (show vo.ownBlock = some g10 by simpa using h)
    have := hc3.size
    omega
   ·have := G2.blk.lt
    have := hc3.size
    omega
  have hgs : gg ∉ vs.ownBlock.toList := out_of G6b G6r.segs (by decide)
  have hgl : gg ∉ vl.ownBlock.toList := fun hm => by
   obtain ⟨cs, h1⟩ := G6r.rows.row (show vl.ownBlock = some gg by simpa using hm)
   exact h1.ne_ G6b (by decide) rfl
  have hgz : gg ∉ vz.ownBlock.toList := out_of G6b G6r.sizes (by decide)
  have hgo : gg ∉ vo.ownBlock.toList := out_of G6b G6r.lost (by decide)
  have hold : ∀ {w_ : World} {a b c d : Value} {Ls : List SegM} {Lb : List (List UInt8)} {Lz : List Int} {Lo : List Bool} {cs : List Value} {w7 : World}, Blk w_ gg 81 cs → R4 w.heap.size w_ a b c d Ls Lb Lz Lo → Chg [gg] w_ w7 → R4 w.heap.size w7 a b c d Ls Lb Lz Lo := fun {_ _ _ _ _ _ _ _ _ cs _} hb hr hc => hr.keepO hc (fun k hk => .inr ⟨81, cs, (List.mem_singleton.1 hk) ▸ hb, by decide, by decide, by decide, by decide, by decide⟩)
  refine H.W_walkc 46 [10, 17, 25, 33, 36, 39, 42, 45] id (Chg S) (fun w' => Chg S w6 w') (opJ w.heap.size gg vs vl vz vo (badM I : Nat) I ⟨y, by_, ok⟩) fol (by kernel_rfl) (by kernel_rfl) (by kernel_rfl) (by kernel_rfl) (fun us w1 w2 h hc => opJ_firm us w1 w2 h hc) (fun w1 w2 h hc => h.trans' hc) (Chg.refl _ _) ⟨G6b, G6r⟩ ?_
  refine H.Walk.plain (v := .pointer (some ⟨gg, 0, none⟩)) (by rfl) rfl (by intro val us w_ hh; exact op_move rfl rfl ⟨Chg.refl _ _, rfl⟩) ?_; dsimp only [na1, na2]
  refine H.Walk.plain (v := .pointer (some ⟨gg, 0, none⟩)) (by rfl) rfl (by intro val us w_ hh; exact op_move rfl rfl ⟨Chg.refl _ _, rfl⟩) ?_; dsimp only [na1, na2]
  refine H.Walk.plain (v := .pointer (some ⟨gg, 0, none⟩)) (by rfl) rfl (by intro val us w_ hh; exact op_move rfl rfl ⟨Chg.refl _ _, rfl⟩) ?_; dsimp only [na1, na2]
  refine H.Walk.plain (v := .pointer (some ⟨gg, 0, none⟩)) (by rfl) rfl (by intro val us w_ hh; exact op_move rfl rfl ⟨Chg.refl _ _, rfl⟩) ?_; dsimp only [na1, na2]
  refine H.Walk.plain (v := .pointer (some ⟨gg, 0, none⟩)) (by rfl) rfl (by intro val us w_ hh; exact op_move rfl rfl ⟨Chg.refl _ _, rfl⟩) ?_; dsimp only [na1, na2]
  refine H.Walk.plain (v := .pointer (some ⟨gg, 0, none⟩)) (by rfl) rfl (by intro val us w_ hh; exact op_nilCheck rfl rfl ⟨Chg.refl _ _, rfl⟩) ?_; dsimp only [na1, na2]
  refine H.Walk.plain (v := .pointer (some ⟨gg, 0, none⟩)) (by rfl) rfl (by intro val us w_ hh; exact op_fieldAddr T rfl rfl rfl rfl rfl rfl rfl rfl ⟨Chg.refl _ _, rfl⟩) ?_; dsimp only [na1, na2]
  refine H.Walk.plain (v := vs) (by rfl) rfl (by intro val us w_ hh; exact op_load T rfl rfl rfl rfl ((opJ_blk hh.inv (by have := hh.le (k := 0) (c := 10) rfl rfl rfl; omega)).cell rfl) ⟨Chg.refl _ _, rfl⟩) ?_; dsimp only [na1, na2]
  refine H.Walk.plain (v := .agg (segL y).toArray) (by rfl) rfl (by intro val us w_ hh; exact op_load_agg T rfl rfl rfl rfl (hg6.keep hh.base h10S) (by exact Nat.le_of_ble_eq_true rfl) (by exact rfl) ⟨Chg.refl _ _, rfl⟩) ?_; dsimp only [na1, na2]
  refine H.Walk.rel (by rfl) (fun v w' => ∃ g7, v = .slice (some ⟨g7, 0, none⟩) 1 1 ∧ Blk w' g7 26 (segL y) ∧ w6.heap.size ≤ g7) rfl (fun v w w' h hab => let ⟨g7, h1, h2, h3⟩ := h; ⟨g7, h1, (by rcases hab with hab | hab; exact h2.keep0 hab; exact h2.keep hab (fun hm => by have := hSlt g7 hm; omega)), h3⟩) ?_ ?_
  ·intro val us w_ hh
   exact op_buildSlice T rfl rfl rfl rfl rfl rfl rfl (fun g7 w7 hs7 hc7 hg7 => ⟨hc7, g7, rfl, hg7, by have := hh.base.size; omega⟩)
  dsimp only [List.nil_append, List.cons_append]
  refine H.Walk.turn (k := 0) (by rfl) rfl ?_ ?_
  ·intro val us w_ hh
   have h1 := hh.self (k := 0) rfl
   obtain rfl := list0 (show us.length = 0 by omega)
   obtain ⟨hJb, hJr⟩ := hh.inv
   have hz_ := hh.base.size
   obtain ⟨g7, he7, hg7, hs7⟩ : ∃ g7, val 9 = .slice (some ⟨g7, 0, none⟩) 1 1 ∧ Blk w_ g7 26 (segL y) ∧ w6.heap.size ≤ g7 := hh.hp 9 rfl _ rfl
   refine op_appendK T segL_len rfl rfl rfl (congrArg some he7) rfl rfl rfl rfl rfl rfl (hJr.segs) hg7 (segL_one y) (by rw [List.length_map]; omega) (fun v w7 hu7 hc7 hb7 => ?_)
   have hG : Chg S w_ w7 := hc7.mono (fun k hk _ => hSs k hk)
   have hB7 : Chg S w6 w7 := hh.base.trans hG (fun k hk _ => hk)
   exact ⟨hG, hB7, hJb.keep hc7 hgs, hJr.pushS (by rw [List.map_append]; exact hu7) hc7 hb7 (by omega)⟩
  dsimp only [List.nil_append, List.cons_append]
  refine H.Walk.plain (v := .pointer (some ⟨gg, 0, none⟩)) (by rfl) rfl (by intro val us w_ hh; exact op_move rfl rfl ⟨Chg.refl _ _, rfl⟩) ?_; dsimp only [na1, na2]
  refine H.Walk.plain (v := .pointer (some ⟨gg, 0, none⟩)) (by rfl) rfl (by intro val us w_ hh; exact op_nilCheck rfl rfl ⟨Chg.refl _ _, rfl⟩) ?_; dsimp only [na1, na2]
  refine H.Walk.plain (v := .pointer (some ⟨gg, 1, none⟩)) (by rfl) rfl (by intro val us w_ hh; exact op_fieldAddr T rfl rfl rfl rfl rfl rfl rfl rfl ⟨Chg.refl _ _, rfl⟩) ?_; dsimp only [na1, na2]
  refine H.Walk.plain (v := vl) (by rfl) rfl (by intro val us w_ hh; exact op_load T rfl rfl rfl rfl ((opJ_blk hh.inv (by have := hh.le (k := 1) (c := 17) rfl rfl rfl; omega)).cell rfl) ⟨Chg.refl _ _, rfl⟩) ?_; dsimp only [na1, na2]
  refine H.Walk.plain (v := .slice Au by_.length cu) (by rfl) rfl (by intro val us w_ hh; exact op_move rfl rfl ⟨Chg.refl _ _, rfl⟩) ?_; dsimp only [na1, na2]
  refine H.Walk.rel (by rfl) (fun v w' => ∃ g7, v = .slice (some ⟨g7, 0, none⟩) 1 1 ∧ Blk w' g7 51 [.slice Au by_.length cu] ∧ w6.heap.size ≤ g7) rfl (fun v w w' h hab => let ⟨g7, h1, h2, h3⟩ := h; ⟨g7, h1, (by rcases hab with hab | hab; exact h2.keep0 hab; exact h2.keep hab (fun hm => by have := hSlt g7 hm; omega)), h3⟩) ?_ ?_
  ·intro val us w_ hh
   exact op_buildSlice T rfl rfl rfl rfl rfl rfl rfl (fun g7 w7 hs7 hc7 hg7 => ⟨hc7, g7, rfl, hg7, by have := hh.base.size; omega⟩)
  dsimp only [List.nil_append, List.cons_append]
  refine H.Walk.turn (k := 1) (by rfl) rfl ?_ ?_
  ·intro val us w_ hh
   have h1 := hh.self (k := 1) rfl
   have h2 := hh.lt (k := 0) (c := 10) rfl rfl
   obtain ⟨ua, rfl⟩ := list1 (show us.length = 1 by omega)
   obtain ⟨hJb, hJr⟩ := hh.inv
   have hz_ := hh.base.size
   obtain ⟨g7, he7, hg7, hs7⟩ : ∃ g7, val 16 = .slice (some ⟨g7, 0, none⟩) 1 1 ∧ Blk w_ g7 51 [.slice Au by_.length cu] ∧ w6.heap.size ≤ g7 := hh.hp 16 rfl _ rfl
   obtain ⟨us7, h3, h4, h5⟩ := hJr.rows
   refine op_append1 T (f := id) (L := us7) (a := .slice Au by_.length cu) rfl rfl rfl (congrArg some he7) rfl rfl rfl rfl rfl h4 hg7 (own_one ho6) (by rw [h3, List.length_map]; omega) (fun v w7 hu7 hc7 hb7 => ?_)
   have hG : Chg S w_ w7 := hc7.mono (fun k hk _ => hSl k hk)
   have hB7 : Chg S w6 w7 := hh.base.trans hG (fun k hk _ => hk)
   have hmine : ∀ k ∈ vl.ownBlock.toList, ∃ cs, Blk w_ k 51 cs := fun k hk => hJr.rows.row (by simpa using hk)
   have hnewB : OwnB w.heap.size w7 v ((I ++ [(⟨y, by_, ok⟩ : GItem)]).map fun i => i.b) := by
    refine ⟨us7 ++ [.slice Au by_.length cu], by rw [List.length_append, List.map_append, List.length_append, h3]; rfl, hu7, fun j b x hb hx => ?_⟩
    rw [List.map_append] at hb
    rcases Nat.lt_or_ge j us7.length with hj | hj
    ·rw [List.getElem?_append_left hj] at hx
     rw [List.getElem?_append_left (by omega)] at hb
     obtain ⟨h6, h7⟩ := h5 j b x hb hx
     refine ⟨h6.keep hc7 (fun k hk hm => ?_), h7⟩
     obtain ⟨c1, hr1⟩ := h6.row hk
     obtain ⟨c2, hr2⟩ := hmine k hm
     exact hr1.ne_ hr2 (by decide) rfl
    ·have hj2 : j = us7.length := by have := (List.getElem?_eq_some_iff.1 hx).1; rw [List.length_append, List.length_singleton] at this; omega
     subst hj2
     rw [List.getElem?_append_right (Nat.le_refl _), Nat.sub_self] at hx
     rw [List.getElem?_append_right (by omega), h3, Nat.sub_self] at hb
     injection hx with hx
     injection hb with hb
     subst hx
     subst hb
     refine ⟨(ho6.keep hh.base (fun k hk hm => ?_)).keep hc7 (fun k hk hm => ?_), fun k hk => by have := hf6 k hk; omega⟩
     ·have := hf6 k hk; have := hS5 k hm; omega
     ·have := hf6 k hk; have := hS5 k (hSl k hm); omega
   exact ⟨hG, hB7, hJb.keep hc7 hgl, hJr.pushB hnewB hc7 hb7 (by omega)⟩
  dsimp only [List.nil_append, List.cons_append]
  refine H.Walk.plain (v := .pointer (some ⟨gg, 0, none⟩)) (by rfl) rfl (by intro val us w_ hh; exact op_move rfl rfl ⟨Chg.refl _ _, rfl⟩) ?_; dsimp only [na1, na2]
  refine H.Walk.plain (v := .pointer (some ⟨gg, 0, none⟩)) (by rfl) rfl (by intro val us w_ hh; exact op_nilCheck rfl rfl ⟨Chg.refl _ _, rfl⟩) ?_; dsimp only [na1, na2]
  refine H.Walk.plain (v := .pointer (some ⟨gg, 2, none⟩)) (by rfl) rfl (by intro val us w_ hh; exact op_fieldAddr T rfl rfl rfl rfl rfl rfl rfl rfl ⟨Chg.refl _ _, rfl⟩) ?_; dsimp only [na1, na2]
  refine H.Walk.plain (v := vz) (by rfl) rfl (by intro val us w_ hh; exact op_load T rfl rfl rfl rfl ((opJ_blk hh.inv (by have := hh.le (k := 2) (c := 25) rfl rfl rfl; omega)).cell rfl) ⟨Chg.refl _ _, rfl⟩) ?_; dsimp only [na1, na2]
  refine H.Walk.plain (v := .pointer (some ⟨g10, 4, none⟩)) (by rfl) rfl (by intro val us w_ hh; exact op_fieldAddr T rfl rfl rfl rfl rfl rfl rfl rfl ⟨Chg.refl _ _, rfl⟩) ?_; dsimp only [na1, na2]
  refine H.Walk.plain (v := .int .i64 y.size) (by rfl) rfl (by intro val us w_ hh; exact op_load T rfl rfl rfl rfl ((hg6'.keep hh.base h10S).cell rfl) ⟨Chg.refl _ _, rfl⟩) ?_; dsimp only [na1, na2]
  refine H.Walk.rel (by rfl) (fun v w' => ∃ g7, v = .slice (some ⟨g7, 0, none⟩) 1 1 ∧ Blk w' g7 3 [i64V y.size] ∧ w6.heap.size ≤ g7) rfl (fun v w w' h hab => let ⟨g7, h1, h2, h3⟩ := h; ⟨g7, h1, (by rcases hab with hab | hab; exact h2.keep0 hab; exact h2.keep hab (fun hm => by have := hSlt g7 hm; omega)), h3⟩) ?_ ?_
  ·intro val us w_ hh
   exact op_buildSlice T rfl rfl rfl rfl rfl rfl rfl (fun g7 w7 hs7 hc7 hg7 => ⟨hc7, g7, rfl, hg7, by have := hh.base.size; omega⟩)
  dsimp only [List.nil_append, List.cons_append]
  refine H.Walk.turn (k := 2) (by rfl) rfl ?_ ?_
  ·intro val us w_ hh
   have h1 := hh.self (k := 2) rfl
   have h2 := hh.lt (k := 1) (c := 17) rfl rfl
   obtain ⟨ua, ub, rfl⟩ := list2 (show us.length = 2 by omega)
   obtain ⟨hJb, hJr⟩ := hh.inv
   have hz_ := hh.base.size
   obtain ⟨g7, he7, hg7, hs7⟩ : ∃ g7, val 24 = .slice (some ⟨g7, 0, none⟩) 1 1 ∧ Blk w_ g7 3 [i64V y.size] ∧ w6.heap.size ≤ g7 := hh.hp 24 rfl _ rfl
   refine op_append1 T (f := i64V) rfl rfl rfl (congrArg some he7) rfl rfl rfl rfl rfl hJr.sizes hg7 rfl (by rw [List.length_map]; omega) (fun v w7 hu7 hc7 hb7 => ?_)
   have hG : Chg S w_ w7 := hc7.mono (fun k hk _ => hSz k hk)
   have hB7 : Chg S w6 w7 := hh.base.trans hG (fun k hk _ => hk)
   exact ⟨hG, hB7, hJb.keep hc7 hgz, hJr.pushZ (by rw [List.map_append]; exact hu7) hc7 hb7 (by omega)⟩
  dsimp only [List.nil_append, List.cons_append]
  refine H.Walk.plain (v := .pointer (some ⟨gg, 0, none⟩)) (by rfl) rfl (by intro val us w_ hh; exact op_move rfl rfl ⟨Chg.refl _ _, rfl⟩) ?_; dsimp only [na1, na2]
  refine H.Walk.plain (v := .pointer (some ⟨gg, 0, none⟩)) (by rfl) rfl (by intro val us w_ hh; exact op_nilCheck rfl rfl ⟨Chg.refl _ _, rfl⟩) ?_; dsimp only [na1, na2]
  refine H.Walk.plain (v := .pointer (some ⟨gg, 3, none⟩)) (by rfl) rfl (by intro val us w_ hh; exact op_fieldAddr T rfl rfl rfl rfl rfl rfl rfl rfl ⟨Chg.refl _ _, rfl⟩) ?_; dsimp only [na1, na2]
  refine H.Walk.plain (v := vo) (by rfl) rfl (by intro val us w_ hh; exact op_load T rfl rfl rfl rfl ((opJ_blk hh.inv (by have := hh.le (k := 3) (c := 33) rfl rfl rfl; omega)).cell rfl) ⟨Chg.refl _ _, rfl⟩) ?_; dsimp only [na1, na2]
  refine H.Walk.plain (v := .bool ok) (by rfl) rfl (by intro val us w_ hh; exact op_move rfl rfl ⟨Chg.refl _ _, rfl⟩) ?_; dsimp only [na1, na2]
  refine H.Walk.plain (v := .bool (!ok)) (by rfl) rfl (by intro val us w_ hh; exact op_not rfl rfl rfl ⟨Chg.refl _ _, rfl⟩) ?_; dsimp only [na1, na2]
  refine H.Walk.rel (by rfl) (fun v w' => ∃ g7, v = .slice (some ⟨g7, 0, none⟩) 1 1 ∧ Blk w' g7 4 [boolV (!ok)] ∧ w6.heap.size ≤ g7) rfl (fun v w w' h hab => let ⟨g7, h1, h2, h3⟩ := h; ⟨g7, h1, (by rcases hab with hab | hab; exact h2.keep0 hab; exact h2.keep hab (fun hm => by have := hSlt g7 hm; omega)), h3⟩) ?_ ?_
  ·intro val us w_ hh
   exact op_buildSlice T rfl rfl rfl rfl rfl rfl rfl (fun g7 w7 hs7 hc7 hg7 => ⟨hc7, g7, rfl, hg7, by have := hh.base.size; omega⟩)
  dsimp only [List.nil_append, List.cons_append]
  refine H.Walk.turn (k := 3) (by rfl) rfl ?_ ?_
  ·intro val us w_ hh
   have h1 := hh.self (k := 3) rfl
   have h2 := hh.lt (k := 2) (c := 25) rfl rfl
   obtain ⟨ua, ub, uc, rfl⟩ := list3 (show us.length = 3 by omega)
   obtain ⟨hJb, hJr⟩ := hh.inv
   have hz_ := hh.base.size
   obtain ⟨g7, he7, hg7, hs7⟩ : ∃ g7, val 32 = .slice (some ⟨g7, 0, none⟩) 1 1 ∧ Blk w_ g7 4 [boolV (!ok)] ∧ w6.heap.size ≤ g7 := hh.hp 32 rfl _ rfl
   refine op_append1 T (f := boolV) rfl rfl rfl (congrArg some he7) rfl rfl rfl rfl rfl hJr.lost hg7 rfl (by rw [List.length_map]; omega) (fun v w7 hu7 hc7 hb7 => ?_)
   have hG : Chg S w_ w7 := hc7.mono (fun k hk _ => hSo k hk)
   have hB7 : Chg S w6 w7 := hh.base.trans hG (fun k hk _ => hk)
   exact ⟨hG, hB7, hJb.keep hc7 hgo, hJr.pushO (by rw [List.map_append]; exact hu7) hc7 hb7 (by omega)⟩
  dsimp only [List.nil_append, List.cons_append]
  refine H.Walk.plain (v := .pointer (some ⟨gg, 0, none⟩)) (by rfl) rfl (by intro val us w_ hh; exact op_nilCheck rfl rfl ⟨Chg.refl _ _, rfl⟩) ?_; dsimp only [na1, na2]
  refine H.Walk.plain (v := .pointer (some ⟨gg, 0, none⟩)) (by rfl) rfl (by intro val us w_ hh; exact op_fieldAddr T rfl rfl rfl rfl rfl rfl rfl rfl ⟨Chg.refl _ _, rfl⟩) ?_; dsimp only [na1, na2]
  refine H.Walk.turn (k := 4) (by rfl) rfl ?_ ?_
  ·intro val us w_ hh
   have h1 := hh.self (k := 4) rfl
   have h2 := hh.lt (k := 3) (c := 33) rfl rfl
   obtain ⟨ua, ub, uc, ud, rfl⟩ := list4 (show us.length = 4 by omega)
   obtain ⟨hJb, hJr⟩ := hh.inv
   have hz_ := hh.base.size
   have hv : val 10 = ua := hh.vals 0 10 ua rfl rfl
   refine op_store T rfl rfl (show some (val 10) = some ua by rw [hv]) rfl rfl (own_one hJr.segs) hJb (by simp) (fun w7 hc7 hn7 _ => ?_)
   have hG : Chg S w_ w7 := hc7.mono (fun k hk _ => by rw [List.mem_singleton.1 hk]; exact hSg)
   have hB7 : Chg S w6 w7 := hh.base.trans hG (fun k hk _ => hk)
   exact ⟨hG, hB7, hn7, hold hJb hJr hc7⟩
  dsimp only [List.nil_append, List.cons_append]
  refine H.Walk.plain (v := .pointer (some ⟨gg, 0, none⟩)) (by rfl) rfl (by intro val us w_ hh; exact op_nilCheck rfl rfl ⟨Chg.refl _ _, rfl⟩) ?_; dsimp only [na1, na2]
  refine H.Walk.plain (v := .pointer (some ⟨gg, 1, none⟩)) (by rfl) rfl (by intro val us w_ hh; exact op_fieldAddr T rfl rfl rfl rfl rfl rfl rfl rfl ⟨Chg.refl _ _, rfl⟩) ?_; dsimp only [na1, na2]
  refine H.Walk.turn (k := 5) (by rfl) rfl ?_ ?_
  ·intro val us w_ hh
   have h1 := hh.self (k := 5) rfl
   have h2 := hh.lt (k := 4) (c := 36) rfl rfl
   obtain ⟨ua, ub, uc, ud, ue, rfl⟩ := list5 (show us.length = 5 by omega)
   obtain ⟨hJb, hJr⟩ := hh.inv
   have hz_ := hh.base.size
   have hv : val 17 = ub := hh.vals 1 17 ub rfl rfl
   refine op_store T rfl rfl (show some (val 17) = some ub by rw [hv]) rfl rfl hJr.rows.one hJb (by simp) (fun w7 hc7 hn7 _ => ?_)
   have hG : Chg S w_ w7 := hc7.mono (fun k hk _ => by rw [List.mem_singleton.1 hk]; exact hSg)
   have hB7 : Chg S w6 w7 := hh.base.trans hG (fun k hk _ => hk)
   exact ⟨hG, hB7, hn7, hold hJb hJr hc7⟩
  dsimp only [List.nil_append, List.cons_append]
  refine H.Walk.plain (v := .pointer (some ⟨gg, 0, none⟩)) (by rfl) rfl (by intro val us w_ hh; exact op_nilCheck rfl rfl ⟨Chg.refl _ _, rfl⟩) ?_; dsimp only [na1, na2]
  refine H.Walk.plain (v := .pointer (some ⟨gg, 2, none⟩)) (by rfl) rfl (by intro val us w_ hh; exact op_fieldAddr T rfl rfl rfl rfl rfl rfl rfl rfl ⟨Chg.refl _ _, rfl⟩) ?_; dsimp only [na1, na2]
  refine H.Walk.turn (k := 6) (by rfl) rfl ?_ ?_
  ·intro val us w_ hh
   have h1 := hh.self (k := 6) rfl
   have h2 := hh.lt (k := 5) (c := 39) rfl rfl
   obtain ⟨ua, ub, uc, ud, ue, uf, rfl⟩ := list6 (show us.length = 6 by omega)
   obtain ⟨hJb, hJr⟩ := hh.inv
   have hz_ := hh.base.size
   have hv : val 25 = uc := hh.vals 2 25 uc rfl rfl
   refine op_store T rfl rfl (show some (val 25) = some uc by rw [hv]) rfl rfl (own_one hJr.sizes) hJb (by simp) (fun w7 hc7 hn7 _ => ?_)
   have hG : Chg S w_ w7 := hc7.mono (fun k hk _ => by rw [List.mem_singleton.1 hk]; exact hSg)
   have hB7 : Chg S w6 w7 := hh.base.trans hG (fun k hk _ => hk)
   exact ⟨hG, hB7, hn7, hold hJb hJr hc7⟩
  dsimp only [List.nil_append, List.cons_append]
  refine H.Walk.plain (v := .pointer (some ⟨gg, 0, none⟩)) (by rfl) rfl (by intro val us w_ hh; exact op_nilCheck rfl rfl ⟨Chg.refl _ _, rfl⟩) ?_; dsimp only [na1, na2]
  refine H.Walk.plain (v := .pointer (some ⟨gg, 3, none⟩)) (by rfl) rfl (by intro val us w_ hh; exact op_fieldAddr T rfl rfl rfl rfl rfl rfl rfl rfl ⟨Chg.refl _ _, rfl⟩) ?_; dsimp only [na1, na2]
  refine H.Walk.turn (k := 7) (by rfl) rfl ?_ ?_
  ·intro val us w_ hh
   have h1 := hh.self (k := 7) rfl
   have h2 := hh.lt (k := 6) (c := 42) rfl rfl
   obtain ⟨ua, ub, uc, ud, ue, uf, ug, rfl⟩ := list7 (show us.length = 7 by omega)
   obtain ⟨hJb, hJr⟩ := hh.inv
   have hz_ := hh.base.size
   have hv : val 33 = ud := hh.vals 3 33 ud rfl rfl
   refine op_store T rfl rfl (show some (val 33) = some ud by rw [hv]) rfl rfl (own_one hJr.lost) hJb (by simp) (fun w7 hc7 hn7 _ => ?_)
   have hG : Chg S w_ w7 := hc7.mono (fun k hk _ => by rw [List.mem_singleton.1 hk]; exact hSg)
   have hB7 : Chg S w6 w7 := hh.base.trans hG (fun k hk _ => hk)
   exact ⟨hG, hB7, hn7, hold hJb hJr hc7⟩
  dsimp only [List.nil_append, List.cons_append]
  refine H.Walk.fin (H.endC ?_)
  intro val us w7 hB7 hJ7 hl7 _ _
  obtain ⟨ua, ub, uc, ud, ue, uf, ug, ui, rfl⟩ := list8 hl7
  obtain ⟨hJb, hJr⟩ := hJ7
  have hc07 : Chg [] w w7 := hc06.trans hB7 (fun k hk hlt => by have := hSge k hk; omega)
  refine WL_sub (e' := [(0, .pointer (some ⟨g, 0, none⟩)), (1, .slice A L.length c), (7, .pointer (some ⟨gg, 0, none⟩)), (13, .bool ok), (16, .slice (some ad) ns.length d), (17, .int .i64 ns.length), (18, .int .i64 i)]) ⟨rfl, rfl, rfl, rfl, rfl, rfl, rfl, trivial⟩ ?_
  have hbad : badM (I ++ [⟨y, by_, ok⟩]) = badM I + if ok = true then 0 else 1 := by unfold badM; rw [List.filter_append, List.length_append]; cases ok <;> rfl
  have hbl : badM I ≤ 1000 := by have := List.length_filter_le (fun i : GItem => !i.ok) I; unfold badM; omega
  cases ok with
  | true =>
   refine runL ?_
   refine go T 13 rfl ?_
   refine adI rfl rfl rfl rfl (by omega) (by omega) ?_
   refine go T 2 rfl ?_
   refine Round_n (i + 1, ua, ub, uc, ud) ⟨rfl, rfl, rfl, rfl, rfl, rfl, trivial⟩ ⟨by dsimp only; omega, hc07, ?_⟩ (by dsimp only; omega)
   dsimp only
   rw [hnx]
   exact ⟨by rw [hbad]; exact hJb, hJr, G2.fr⟩
  | false =>
   refine runL ?_
   refine go T 13 rfl ?_
   refine ldB T hJb rfl rfl rfl rfl rfl rfl ?_
   refine adI rfl rfl rfl rfl (by omega) (by omega) ?_
   refine go T 2 rfl ?_
   refine op0 rfl rfl ?_
   refine op_store T rfl rfl rfl rfl rfl rfl hJb (by simp) (fun w8 hc8 hn8 _ => ?_)
   refine go T 4 rfl ?_
   refine adI rfl rfl rfl rfl (by omega) (by omega) ?_
   refine go T 2 rfl ?_
   refine Round_n (i + 1, ua, ub, uc, ud) ⟨rfl, rfl, rfl, rfl, rfl, rfl, trivial⟩ ⟨by dsimp only; omega, hc07.trans hc8 (fun k hk hlt => by rw [List.mem_singleton.1 hk] at hlt; have := G2.fr; omega), ?_⟩ (by dsimp only; omega)
   dsimp only
   rw [hnx]
   exact ⟨by rw [hbad]; exact hn8, hold hJb hJr hc8, G2.fr⟩
 ·obtain rfl : i = ns.length := by omega
  rw [List.take_length] at G2
  refine go T 6 rfl ?_
  refine rndX ?_
  refine go T 9 rfl ?_
  exact post1 (.inl rfl) rfl rfl ⟨hc2, gg, vs, vl, vz, vo, rfl, G2⟩
end Go.Proofs.YtiadjkjlifnopaaGreatDoor.Tryz
/-! Scrub: the files of make; undo. -/
namespace Go.Vc
open Go
def putK4 (s : FsM) (nm : Nm) (b : List UInt8) : Nat → FsM × Int
 | 0 => createM s nm
 | 1 => appendM s nm b
 | 2 => syncM s nm
 | _ => syncDirM s
def putG (nm : Nm) (b : List UInt8) : Nat → Nat → FsM → FsM × Int
 | 0, _, s => (s, 0)
 | n + 1, k, s => if (putK4 s nm b k).2 ≠ 0 then putK4 s nm b k else putG nm b n (k + 1) (putK4 s nm b k).1
def putF (s : FsM) (nm : Nm) (b : List UInt8) : FsM × Int := putG nm b 4 0 s
theorem putK4_calls (s : FsM) (nm : Nm) (b : List UInt8) (k : Nat) : (putK4 s nm b k).1.calls = s.calls + 1 := by
 unfold putK4
 split
 ·unfold createM; dsimp only; (repeat' split) <;> rfl
 ·unfold appendM; dsimp only; (repeat' split) <;> rfl
 ·unfold syncM; dsimp only; (repeat' split) <;> rfl
 ·unfold syncDirM; dsimp only; (repeat' split) <;> rfl
theorem putG_calls (nm : Nm) (b : List UInt8) : ∀ (n k : Nat) (s : FsM), (putG nm b n k s).1.calls ≤ s.calls + n
 | 0, k, s => by simp [putG]
 | n + 1, k, s => by
  have h := putK4_calls s nm b k
  rw [putG]
  split
  ·omega
  ·have := putG_calls nm b n (k + 1) (putK4 s nm b k).1
   omega
def undoF (s : FsM) (nm : Nm) (e : Int) : FsM := if e = 4 then (removeM s nm).1 else s
end Go.Vc
namespace Go.Proofs.YtiadjkjlifnopaaGreatDoor.Tryz
open Go Go.Vc
section
variable {w : World} {g : Nat} {s : FsM} {p : FsP} {gf gn gc : Nat} {nm : Nm} {A : Option Addr} {n c : Nat} {b : List UInt8}
theorem mk1_has (x : FsAt w g s p) (h4 : Blk w gf 32 [ptrV g]) (h6 : Blk w gn 9 [.string (str nm)]) (hk : nm.length ≤ maxLen) (hcalls : s.calls < 1000000000 - 1) :
  Has Tryz.prog 78 #[ptrV gf, ptrV gn] w (FsDone w g p (createM s nm)) := by
 refine enter Tryz.func78 rfl rfl (by decide) rfl (e := [(0, ptrV gf), (1, ptrV gn)]) ⟨rfl, rfl, trivial⟩ ?_
 unfold ptrV at *
 refine run ?_
 refine go T 7 rfl ?_
 refine ldB T h4 rfl rfl rfl rfl rfl rfl ?_
 refine ldB T h6 rfl rfl rfl rfl rfl rfl ?_
 refine o1 rfl ?_
 refine op_call rfl rfl rfl (create_has g s p nm w x hk hcalls) ?_
 intro v w1 h
 have hv := h.2.1
 subst hv
 refine go T 4 rfl ?_
 exact post1 (.inl rfl) rfl rfl h
theorem mk2_has (x : FsAt w g s p) (h4 : Blk w gf 32 [ptrV g]) (h6 : Blk w gn 9 [.string (str nm)]) (h7 : Blk w gc 51 [.slice A n c]) (hb : Firm (p.fp g) w (fun w => SliceOf Ru8 w (.slice A n c) b)) (hbl : b.length ≤ 1000000000) (hcalls : s.calls < 1000000000 - 1) :
  Has Tryz.prog 79 #[ptrV gf, ptrV gn, ptrV gc] w (FsDone w g p (appendM s nm b)) := by
 refine enter Tryz.func79 rfl rfl (by decide) rfl (e := [(0, ptrV gf), (1, ptrV gn), (2, ptrV gc)]) ⟨rfl, rfl, rfl, trivial⟩ ?_
 unfold ptrV at *
 refine run ?_
 refine go T 7 rfl ?_
 refine ldB T h4 rfl rfl rfl rfl rfl rfl ?_
 refine ldB T h6 rfl rfl rfl rfl rfl rfl ?_
 refine ldB T h7 rfl rfl rfl rfl rfl rfl ?_
 refine o1 rfl ?_
 refine op_call rfl rfl rfl (append_has g s p nm A n c b w x hb hbl hcalls) ?_
 intro v w1 h
 have hv := h.2.1
 subst hv
 refine go T 4 rfl ?_
 exact post1 (.inl rfl) rfl rfl h
theorem mk3_has (x : FsAt w g s p) (h4 : Blk w gf 32 [ptrV g]) (h6 : Blk w gn 9 [.string (str nm)]) (hcalls : s.calls < 1000000000 - 1) :
  Has Tryz.prog 80 #[ptrV gf, ptrV gn] w (FsDone w g p (syncM s nm)) := by
 refine enter Tryz.func80 rfl rfl (by decide) rfl (e := [(0, ptrV gf), (1, ptrV gn)]) ⟨rfl, rfl, trivial⟩ ?_
 unfold ptrV at *
 refine run ?_
 refine go T 7 rfl ?_
 refine ldB T h4 rfl rfl rfl rfl rfl rfl ?_
 refine ldB T h6 rfl rfl rfl rfl rfl rfl ?_
 refine o1 rfl ?_
 refine op_call rfl rfl rfl (sync_has g s p nm w x hcalls) ?_
 intro v w1 h
 have hv := h.2.1
 subst hv
 refine go T 4 rfl ?_
 exact post1 (.inl rfl) rfl rfl h
theorem undo_has (x : FsAt w g s p) (e : Int) (hcalls : s.calls < 1000000000 - 1) :
  Has Tryz.prog 81 #[ptrV g, .string (str nm), .int .i64 e] w (fun v w' => v = .int .i64 e ∧ Chg (p.fp g) w w' ∧ ∃ p', FsAt w' g (undoF s nm e) p' ∧ Grows w g p p') := by
 refine enter Tryz.func81 rfl rfl (by decide) rfl (e := [(0, ptrV g), (1, .string (str nm)), (2, .int .i64 e)]) ⟨rfl, rfl, rfl, trivial⟩ ?_
 unfold ptrV undoF
 by_cases h4 : e = 4
 ·rw [if_pos h4]
  refine run ?_
  refine go T 9 rfl ?_
  refine eqT rfl rfl rfl rfl (by omega) ?_
  refine go T 6 rfl ?_
  refine o1 rfl ?_
  refine op_call rfl rfl rfl (remove_has g s p nm w x hcalls) ?_
  rintro v w1 ⟨h1, h2, p', h3, h5⟩
  refine go T 9 rfl ?_
  exact post1 (.inl rfl) rfl rfl ⟨rfl, h1, p', h3, h5⟩
 ·rw [if_neg h4]
  refine run ?_
  refine go T 9 rfl ?_
  refine eqF rfl rfl rfl rfl (by omega) ?_
  refine go T 12 rfl ?_
  exact post1 (.inl rfl) rfl rfl ⟨rfl, Chg.refl _ _, p, x, Grows.refl _ _ _⟩
end
end Go.Proofs.YtiadjkjlifnopaaGreatDoor.Tryz
/-! Scrub: the edit of make, its rows. -/
namespace Go.Proofs.YtiadjkjlifnopaaGreatDoor.Tryz
open Go Go.Vc
def mkS (num : Int) (i : Nat) (y : SegM) : SegM := { y with group := num, member := (i : Int) }
def gPar (I : List GItem) : List UInt8 := parity (I.map (·.b))
def gNums (I : List GItem) : List Int := I.map (·.seg.num)
def gAdds (num : Int) (I : List GItem) : List SegM := I.mapIdx fun i it => mkS num i it.seg
def mkP (num : Int) (I : List GItem) : ParM := ⟨num, gNums I, I.map (·.seg.size), (gPar I).length, crcN (gPar I)⟩
def mkE (num : Int) (I : List GItem) : EditM := { next := num + 1, seq := 0, adds := gAdds num I, dels := gNums I, pars := [mkP num I], drops := [] }
def makeF (s : FsM) (num : Int) (I : List GItem) : FsM × Int :=
 let nm := dig2 num.toNat ++ endPar
 let r := putF s nm (gPar I)
 if r.2 ≠ 0 then (undoF r.1 nm r.2, r.2) else
  let c := commitF r.1 (encE (mkE num I)).1
  (undoF c.1 nm c.2, c.2)
theorem gNums_snoc {I : List GItem} {i : Nat} {y : GItem} (h : I[i]? = some y) : gNums (I.take (i + 1)) = gNums (I.take i) ++ [y.seg.num] := by
 unfold gNums; rw [List.take_add_one, h, List.map_append]; rfl
theorem gAdds_snoc {num : Int} {I : List GItem} {i : Nat} {y : GItem} (h : I[i]? = some y) : gAdds num (I.take (i + 1)) = gAdds num (I.take i) ++ [mkS num i y.seg] := by
 have hi := (List.getElem?_eq_some_iff.1 h).1
 unfold gAdds
 rw [List.take_add_one, h]
 show List.mapIdx _ (I.take i ++ [y]) = _
 rw [List.mapIdx_append, List.mapIdx_cons, List.mapIdx_nil, List.length_take, Nat.min_eq_left (by omega), Nat.zero_add]
structure M3 (bz : Nat) (w : World) (un ud ua : Value) (Ln Ld : List Int) (La : List SegM) : Prop where
 nums : Own w 2 1 un Ln.length (Ln.map i64V)
 dels : Own w 2 1 ud Ld.length (Ld.map i64V)
 adds : Own w 26 6 ua La.length (La.flatMap segL)
 apart : ∀ k, un.ownBlock = some k → ud.ownBlock ≠ some k
 frn : ∀ k, un.ownBlock = some k → bz ≤ k
 frd : ∀ k, ud.ownBlock = some k → bz ≤ k
 fra : ∀ k, ua.ownBlock = some k → bz ≤ k
section
variable {bz : Nat} {w w' : World} {un ud ua v : Value} {Ln Ld Ln' Ld' : List Int} {La La' : List SegM}
theorem M3.keep0 (h : M3 bz w un ud ua Ln Ld La) (hc : Chg [] w w') : M3 bz w' un ud ua Ln Ld La := ⟨h.nums.keep0 hc, h.dels.keep0 hc, h.adds.keep0 hc, h.apart, h.frn, h.frd, h.fra⟩
theorem M3.keepT (h : M3 bz w un ud ua Ln Ld La) {g : Nat} {t : TypeId} {cs : List Value} (hb : Blk w g t cs) (h1 : 2 ≠ t) (h2 : 26 ≠ t) (hc : Chg [g] w w') : M3 bz w' un ud ua Ln Ld La := by
 refine ⟨h.nums.keep hc (fun k hk hm => ?_), h.dels.keep hc (fun k hk hm => ?_), h.adds.keep hc (fun k hk hm => ?_), h.apart, h.frn, h.frd, h.fra⟩
 ·rw [List.mem_singleton.1 hm] at hk; obtain ⟨c1, hr⟩ := h.nums.row hk; exact hr.ne_ hb h1 rfl
 ·rw [List.mem_singleton.1 hm] at hk; obtain ⟨c1, hr⟩ := h.dels.row hk; exact hr.ne_ hb h1 rfl
 ·rw [List.mem_singleton.1 hm] at hk; obtain ⟨c1, hr⟩ := h.adds.row hk; exact hr.ne_ hb h2 rfl
theorem fresh_or {u u' : Value} {n : Nat} {b : Nat} (hf : ∀ k, u.ownBlock = some k → b ≤ k) (hb : u'.ownBlock = u.ownBlock ∨ ∃ k, u'.ownBlock = some k ∧ n ≤ k) (hn : b ≤ n) : ∀ k, u'.ownBlock = some k → b ≤ k := fun k hk => by
 rcases hb with h1 | ⟨k', h1, h2⟩
 ·exact hf k (by rw [← h1]; exact hk)
 ·rw [h1] at hk; injection hk with hk; omega
theorem M3.pushN (h : M3 bz w un ud ua Ln Ld La) (ho : Own w' 2 1 v Ln'.length (Ln'.map i64V)) (hc : Chg un.ownBlock.toList w w') (hb : v.ownBlock = un.ownBlock ∨ ∃ k, v.ownBlock = some k ∧ w.heap.size ≤ k) (hz : bz ≤ w.heap.size) : M3 bz w' v ud ua Ln' Ld La := by
 refine ⟨ho, h.dels.keep hc (fun k hk hm => h.apart k (by simpa using hm) hk), h.adds.keep hc (fun k hk hm => ?_), fun k hk hd => ?_, fresh_or h.frn hb hz, h.frd, h.fra⟩
 ·obtain ⟨c1, h1⟩ := h.nums.row (show un.ownBlock = some k by simpa using hm); obtain ⟨c2, h2⟩ := h.adds.row hk; exact h1.ne_ h2 (by decide) rfl
 ·rcases hb with h1 | ⟨k', h1, h2⟩
  ·exact h.apart k (by rw [← h1]; exact hk) hd
  ·rw [h1] at hk; injection hk with hk; have := h.dels.lt hd; omega
theorem M3.pushD (h : M3 bz w un ud ua Ln Ld La) (ho : Own w' 2 1 v Ld'.length (Ld'.map i64V)) (hc : Chg ud.ownBlock.toList w w') (hb : v.ownBlock = ud.ownBlock ∨ ∃ k, v.ownBlock = some k ∧ w.heap.size ≤ k) (hz : bz ≤ w.heap.size) : M3 bz w' un v ua Ln Ld' La := by
 refine ⟨h.nums.keep hc (fun k hk hm => h.apart k hk (by simpa using hm)), ho, h.adds.keep hc (fun k hk hm => ?_), fun k hk hd => ?_, h.frn, fresh_or h.frd hb hz, h.fra⟩
 ·obtain ⟨c1, h1⟩ := h.dels.row (show ud.ownBlock = some k by simpa using hm); obtain ⟨c2, h2⟩ := h.adds.row hk; exact h1.ne_ h2 (by decide) rfl
 ·rcases hb with h1 | ⟨k', h1, h2⟩
  ·exact h.apart k hk (by rw [← h1]; exact hd)
  ·rw [h1] at hd; injection hd with hd; have := h.nums.lt hk; omega
theorem M3.pushA (h : M3 bz w un ud ua Ln Ld La) (ho : Own w' 26 6 v La'.length (La'.flatMap segL)) (hc : Chg ua.ownBlock.toList w w') (hb : v.ownBlock = ua.ownBlock ∨ ∃ k, v.ownBlock = some k ∧ w.heap.size ≤ k) (hz : bz ≤ w.heap.size) : M3 bz w' un ud v Ln Ld La' := by
 refine ⟨h.nums.keep hc (fun k hk hm => ?_), h.dels.keep hc (fun k hk hm => ?_), ho, h.apart, h.frn, h.frd, fresh_or h.fra hb hz⟩
 ·obtain ⟨c1, h1⟩ := h.adds.row (show ua.ownBlock = some k by simpa using hm); obtain ⟨c2, h2⟩ := h.nums.row hk; exact h1.ne_ h2 (by decide) rfl
 ·obtain ⟨c1, h1⟩ := h.adds.row (show ua.ownBlock = some k by simpa using hm); obtain ⟨c2, h2⟩ := h.dels.row hk; exact h1.ne_ h2 (by decide) rfl
end
def mkJ (bz g14 : Nat) (nx : Int) (un ud ua : Value) (Ln Ld : List Int) (La : List SegM) (n : Int) (y : SegM) : List Value → World → Prop
 | [], w => Blk w g14 49 [.int .i64 nx, .int .i64 0, ua, ud, .slice none 0 0, .slice none 0 0] ∧ M3 bz w un ud ua Ln Ld La
 | [d], w => Blk w g14 49 [.int .i64 nx, .int .i64 0, ua, ud, .slice none 0 0, .slice none 0 0] ∧ M3 bz w un d ua Ln (Ld ++ [n]) La
 | [d, a], w => Blk w g14 49 [.int .i64 nx, .int .i64 0, ua, ud, .slice none 0 0, .slice none 0 0] ∧ M3 bz w un d a Ln (Ld ++ [n]) (La ++ [y])
 | [d, a, _], w => Blk w g14 49 [.int .i64 nx, .int .i64 0, ua, d, .slice none 0 0, .slice none 0 0] ∧ M3 bz w un d a Ln (Ld ++ [n]) (La ++ [y])
 | [d, a, _, _], w => Blk w g14 49 [.int .i64 nx, .int .i64 0, a, d, .slice none 0 0, .slice none 0 0] ∧ M3 bz w un d a Ln (Ld ++ [n]) (La ++ [y])
 | _, _ => False
theorem mkJ_firm {bz g14 : Nat} {nx : Int} {un ud ua : Value} {Ln Ld : List Int} {La : List SegM} {n : Int} {y : SegM} : ∀ (us : List Value) (w w' : World), mkJ bz g14 nx un ud ua Ln Ld La n y us w → Chg [] w w' → mkJ bz g14 nx un ud ua Ln Ld La n y us w'
 | [], w, w', h, hc => ⟨h.1.keep0 hc, h.2.keep0 hc⟩
 | [a], w, w', h, hc => ⟨h.1.keep0 hc, h.2.keep0 hc⟩
 | [a, b], w, w', h, hc => ⟨h.1.keep0 hc, h.2.keep0 hc⟩
 | [a, b, c], w, w', h, hc => ⟨h.1.keep0 hc, h.2.keep0 hc⟩
 | [a, b, c, d], w, w', h, hc => ⟨h.1.keep0 hc, h.2.keep0 hc⟩
 | _ :: _ :: _ :: _ :: _ :: _, w, w', h, hc => h.elim
theorem mkJ_blk {bz g14 : Nat} {nx : Int} {un ud ua : Value} {Ln Ld : List Int} {La : List SegM} {n : Int} {y : SegM} {us : List Value} {w : World} (h : mkJ bz g14 nx un ud ua Ln Ld La n y us w) (hl : us.length ≤ 2) : Blk w g14 49 [.int .i64 nx, .int .i64 0, ua, ud, .slice none 0 0, .slice none 0 0] := by
 match us, hl with
 | [], _ => exact h.1
 | [a], _ => exact h.1
 | [a, b], _ => exact h.1
end Go.Proofs.YtiadjkjlifnopaaGreatDoor.Tryz
/-! Scrub: make. -/
namespace Go.Proofs.YtiadjkjlifnopaaGreatDoor.Tryz
open Go Go.Vc
set_option maxHeartbeats 16000000 in
theorem make_has {w0 w : World} {gm g : Nat} {s : FsM} {p : FsP} {st : StM} (x : ManO w0 w gm g s p st false) (hok : POk st.plain) (hnx : st.next < 100) {b0 gg : Nat} {vs vl vz vo : Value} {I : List GItem} (G : GrpAt b0 w gg vs vl vz vo I) (hb0 : ∀ k ∈ gm :: p.fp g, k < b0) (hIl : I.length ≤ 100)
  (hbl : ∀ i ∈ I, i.b.length ≤ 4194304) (hi64 : ∀ i ∈ I, (-9223372036854775808 ≤ i.seg.num ∧ i.seg.num ≤ 9223372036854775807) ∧ -9223372036854775808 ≤ i.seg.size ∧ i.seg.size ≤ 9223372036854775807) (hEI : EdI (mkE st.next I)) {q' : PSt} (hap : applyP st.plain (mkE st.next I) false = some q') (hcalls : s.calls < 1000000000 - 100) :
  Has Tryz.prog 43 #[.pointer (some ⟨gg, 0, none⟩), ptrV g, .pointer (some ⟨gm, 0, none⟩)] w (fun v w' => v = .int .i64 (makeF s st.next I).2 ∧ Chg (gm :: p.fp g) w w' ∧ ∃ p' st' cl, Grows w g p p' ∧ ((makeF s st.next I).2 = 0 → st'.plain = q' ∧ cl = false) ∧ ((makeF s st.next I).2 ≠ 0 → st'.plain = st.plain) ∧ ManO w0 w' gm g (makeF s st.next I).1 p' st' cl) := by
 obtain ⟨num, hnum⟩ := Int.eq_ofNat_of_zero_le (show 0 ≤ st.next by have h1 := hok.next.1; have h2 : st.plain.next = st.next := rfl; omega)
 have hn100 : num < 100 := by omega
 refine enter Tryz.func43 rfl rfl (by decide) rfl (e := [(0, .pointer (some ⟨gg, 0, none⟩)), (1, ptrV g), (2, .pointer (some ⟨gm, 0, none⟩))]) ⟨rfl, rfl, rfl, trivial⟩ ?_
 have hGb := G.blk
 refine run ?_
 refine go T 2 rfl ?_
 refine o1 rfl ?_
 refine op_box rfl rfl (fun g4 w1 hs1 hc1 hg4 => ?_)
 have hg4 : Blk w1 g4 32 [ptrV g] := hg4
 have hs1 : w.heap.size ≤ g4 := hs1
 replace hGb := hGb.keep0 hc1
 have hrd := (G.rows.keep0 hc1).rows.reads
 obtain ⟨Al, cl, rfl, _, _⟩ := hrd.form
 refine go T 8 rfl ?_
 refine ldB T hGb rfl rfl rfl rfl rfl rfl ?_
 refine o1 rfl ?_
 refine op_call rfl rfl rfl (parMake_has Al _ cl (I.map (·.b)) w1 hrd (fun r hr => by obtain ⟨it, h1, rfl⟩ := List.mem_map.1 hr; have := hbl it h1; omega)) ?_
 rintro v2 w2 ⟨hc2, hob, hfb⟩
 change Own w2 5 1 v2 (gPar I).length (u8s (gPar I)) at hob
 have hgpl : (gPar I).length ≤ 4194304 := by
  show (parity _).length ≤ _
  rw [parity_length]
  exact maxOf_le _ _ (fun r hr => by obtain ⟨it, h1, rfl⟩ := List.mem_map.1 hr; exact hbl it h1)
 have hzb := hob.bytes
 obtain ⟨Ab, cb, rfl, _, _⟩ := hzb.form
 have hz1 := hc1.size
 have hz2 := hc2.size
 refine o1 rfl ?_
 refine op_alloc T rfl rfl (fun g7 w3 hs3 hc3 hg7 => ?_)
 have hs3 : w2.heap.size ≤ g7 := hs3
 refine op0 rfl rfl ?_
 refine op_store T rfl rfl rfl rfl rfl rfl hg7 (by simp; decide) (fun w4 hc4 hg7n _ => ?_)
 replace hg7 : Blk w4 g7 51 [.slice Ab (gPar I).length cb] := hg7n
 clear hg7n
 have hc24 : Chg [] w2 w4 := hc3.trans hc4 (fun k hk hlt => by simp at hk; omega)
 have hc04 := (hc1.trans' hc2).trans' hc24
 replace hob := hob.keep0 hc24
 replace hg4 := (hg4.keep0 hc2).keep0 hc24
 have x4 := x.keep0 hc04
 have hz4 := hc04.size
 have hz24 := hc24.size
 refine go T 5 rfl ?_
 refine o1 rfl ?_
 refine op_call rfl rfl rfl (nextO_has x4) ?_
 rintro _ w4 ⟨rfl, rfl⟩
 rw [hnum]
 refine go T 6 rfl ?_
 refine o1 rfl ?_
 refine op_call rfl rfl rfl (parName2_has num w4 hn100) ?_
 rintro _ w4 ⟨rfl, rfl⟩
 obtain ⟨nm, hnm⟩ : ∃ nm, nm = dig2 num ++ endPar := ⟨_, rfl⟩
 rw [← hnm]
 have hnml : nm.length ≤ maxLen := by rw [hnm]; have := dig2_len num; unfold maxLen; simp [endPar]; omega
 refine o1 rfl ?_
 refine op_alloc T rfl rfl (fun g9 w5 hs5 hc5 hg9 => ?_)
 have hs5 : w4.heap.size ≤ g9 := hs5
 refine op0 rfl rfl ?_
 refine op_store T rfl rfl rfl rfl rfl rfl hg9 (by simp; decide) (fun w6 hc6 hg9n _ => ?_)
 replace hg9 : Blk w6 g9 9 [.string (str nm)] := hg9n
 clear hg9n
 have hc46 : Chg [] w4 w6 := hc5.trans hc6 (fun k hk hlt => by simp at hk; omega)
 have hc06 := hc04.trans' hc46
 replace hg4 := hg4.keep0 hc46
 have hg7l := hg7.lt
 replace hg7 := hg7.keep0 hc46
 replace hob := hob.keep0 hc46
 have x6 := x.keep0 hc06
 have hz6 := hc06.size
 unfold ptrV at hg4
 refine go T 5 rfl ?_
 refine o1 rfl ?_
 refine op_makeFunc (fv := #[]) (cv := #[.pointer (some ⟨g4, 0, none⟩), .pointer (some ⟨g9, 0, none⟩)]) rfl rfl rfl ?_
 refine o1 rfl ?_
 refine op_makeFunc (fv := #[]) (cv := #[.pointer (some ⟨g4, 0, none⟩), .pointer (some ⟨g9, 0, none⟩), .pointer (some ⟨g7, 0, none⟩)]) rfl rfl rfl ?_
 refine o1 rfl ?_
 refine op_makeFunc (fv := #[]) (cv := #[.pointer (some ⟨g4, 0, none⟩), .pointer (some ⟨g9, 0, none⟩)]) rfl rfl rfl ?_
 refine ldB T hg4 rfl rfl rfl rfl rfl rfl ?_
 refine o1 rfl ?_
 refine op_makeFunc (fv := #[.pointer (some ⟨g, 0, none⟩)]) (cv := #[]) rfl rfl rfl ?_
 refine o1 rfl ?_
 refine op_buildSlice T rfl rfl rfl rfl rfl rfl rfl (fun gt w7 hs7 hc7 h8 => ?_)
 have h8 : Blk w7 gt 58 [.func (.func 78) #[] #[ptrV g4, ptrV g9], .func (.func 79) #[] #[ptrV g4, ptrV g9, ptrV g7], .func (.func 80) #[] #[ptrV g4, ptrV g9], .func (.func 41) #[ptrV g] #[]] := h8
 have hs7 : w6.heap.size ≤ gt := hs7
 have hc07 := hc06.trans' hc7
 have hg9l := hg9.lt
 replace hg4 := hg4.keep0 hc7
 replace hg7 := hg7.keep0 hc7
 replace hg9 := hg9.keep0 hc7
 replace hob := hob.keep0 hc7
 have x7 := x.keep0 hc07
 have hz7 := hc07.size
 have hgtl := h8.lt
 have hg4l7 := hg4.lt
 have hg7l7 := hg7.lt
 have hg9l7 := hg9.lt
 have hnew : ∀ k, w.heap.size ≤ k → k ∉ p.fp g := fun k hk hm => by have := x.fs.at_.lt k hm; omega
 have hbw : ∀ k, (Value.slice Ab (gPar I).length cb).ownBlock = some k → w.heap.size ≤ k := fun k hk => by have := hfb k hk; omega
 refine go T 5 rfl ?_
 refine W_loop (σ := Nat) (fun k => [(0, .pointer (some ⟨gg, 0, none⟩)), (2, .pointer (some ⟨gm, 0, none⟩)), (4, .pointer (some ⟨g4, 0, none⟩)), (7, .pointer (some ⟨g7, 0, none⟩)), (8, .int .i64 (num : Int)), (9, .pointer (some ⟨g9, 0, none⟩)), (31, .slice (some ⟨gt, 0, none⟩) 4 4), (32, .int .i64 4), (33, .int .i64 (k : Int))])
  (fun k w' => k ≤ 4 ∧ ∃ s' p', ManO w0 w' gm g s' p' st false ∧ Chg (p.fp g) w7 w' ∧ Grows w7 g p p' ∧ s'.calls = s.calls + k ∧ putF s nm (gPar I) = putG nm (gPar I) (4 - k) k s')
  (fun k => 4 - k) 0 ⟨rfl, rfl, rfl, rfl, rfl, rfl, rfl, rfl, rfl, trivial⟩ ⟨by omega, s, p, x7, Chg.refl _ _, Grows.refl _ _ _, by omega, rfl⟩ ?_
 clear hc1 hc2 hc3 hc4 hc5 hc6 hc24 hc46 hrd hGb x4 x6
 rintro k w8 ⟨hk, s8, p8, x8, hc8, hg8, hcl, hw⟩
 have h48 := hg4.keep hc8 (hnew _ (by omega))
 have h78 := hg7.keep hc8 (hnew _ (by omega))
 have h98 := hg9.keep hc8 (hnew _ (by omega))
 have h88 := h8.keep hc8 (hnew _ (by omega))
 have hob8 := hob.keep hc8 (fun k hk => hnew k (hbw k hk))
 have hc08 : Chg (p.fp g) w w8 := (hc07.mono (fun k hk _ => by cases hk)).trans hc8 (fun k hk _ => hk)
 have hg08 : Grows w g p p8 := fun k hk => (hg8 k hk).imp id (fun h => by omega)
 have hz8 := hc8.size
 refine run ?_
 refine go T 2 rfl ?_
 refine ltS rfl rfl rfl rfl (fun hcmp => ?_) (fun hcmp => ?_)
 ·have hk4 : k < 4 := by omega
  have hfirm8 : Firm (p8.fp g) w8 (fun w => SliceOf Ru8 w (.slice Ab (gPar I).length cb) (gPar I)) := fun w1 h1 => (hob8.keep h1 (fun j hj hm => by
   rcases hg8 j hm with h | h
   ·exact hnew j (hbw j hj) h
   ·have := hob.lt hj; omega)).bytes
  have hstep : ∃ nk fv cv, ([.func (.func 78) #[] #[ptrV g4, ptrV g9], .func (.func 79) #[] #[ptrV g4, ptrV g9, ptrV g7], .func (.func 80) #[] #[ptrV g4, ptrV g9], .func (.func 41) #[ptrV g] #[]] : List Value)[k]? = some (.func (.func nk) fv cv) ∧ Has Tryz.prog nk (fv ++ #[] ++ cv) w8 (FsDone w8 g p8 (putK4 s8 nm (gPar I) k)) := by
   match k, hk4 with
   | 0, _ => exact ⟨_, _, _, rfl, mk1_has x8.fs.at_ h48 h98 hnml (by omega)⟩
   | 1, _ => exact ⟨_, _, _, rfl, mk2_has x8.fs.at_ h48 h98 h78 hfirm8 (by omega) (by omega)⟩
   | 2, _ => exact ⟨_, _, _, rfl, mk3_has x8.fs.at_ h48 h98 (by omega)⟩
   | 3, _ => exact ⟨_, _, _, rfl, syncDir_has g s8 p8 w8 x8.fs.at_ (by omega)⟩
  obtain ⟨nk, fv, cv, hcell, hhas⟩ := hstep
  have hcl2 := putK4_calls s8 nm (gPar I) k
  have hcell8 := h88.cell hcell
  have hwg : putG nm (gPar I) (4 - k) k s8 = if (putK4 s8 nm (gPar I) k).2 ≠ 0 then putK4 s8 nm (gPar I) k else putG nm (gPar I) (4 - (k + 1)) (k + 1) (putK4 s8 nm (gPar I) k).1 := by
   rw [show 4 - k = (4 - (k + 1)) + 1 from by omega]; rfl
  refine go T 10 rfl ?_
  refine o1 rfl (op_index_own T rfl rfl rfl rfl rfl rfl (by omega) ?_)
  refine o1 rfl (op_load T rfl rfl rfl rfl (by assumption) ?_)
  refine go T 6 rfl ?_
  refine o1 rfl ?_
  refine op_callf rfl rfl rfl hhas ?_
  intro v w9 hd
  obtain ⟨hv, hc9, p9, x9, hg9'⟩ := fsDoneO x8.fs hd
  subst hv
  have y9 := x8.step hc9 x9 hg9'
  have hz9 := hc9.size
  have hc79 : Chg (p.fp g) w7 w9 := hc8.trans hc9 (fun j hj hlt => by
   rcases hg8 j hj with h | h
   ·exact h
   ·omega)
  have hg79 : Grows w7 g p p9 := fun j hj => by
   rcases hg9' j hj with h | h
   ·exact hg8 j h
   ·exact .inr (by omega)
  by_cases hz : (putK4 s8 nm (gPar I) k).2 = 0
  ·rw [if_neg (by simp [hz])] at hwg
   refine go T 6 rfl ?_
   refine neF rfl rfl rfl rfl (by omega) ?_
   refine go T 7 rfl ?_
   refine adI rfl rfl rfl rfl (by omega) (by omega) ?_
   refine go T 2 rfl ?_
   exact Round_n (k + 1) ⟨rfl, rfl, rfl, rfl, rfl, rfl, rfl, rfl, rfl, trivial⟩ ⟨by omega, _, p9, y9, hc79, hg79, by omega, by rw [hw, hwg]⟩ (by omega)
  ·rw [if_pos hz] at hwg
   have hput : putF s nm (gPar I) = putK4 s8 nm (gPar I) k := by rw [hw, hwg]
   have hmk : makeF s ((num : Nat) : Int) I = (undoF (putK4 s8 nm (gPar I) k).1 nm (putK4 s8 nm (gPar I) k).2, (putK4 s8 nm (gPar I) k).2) := by
    unfold makeF
    rw [Int.toNat_natCast, ← hnm]
    dsimp only
    rw [hput, if_pos hz]
   rw [hmk]
   have h49 := h48.keep hc9 (fun h => by rcases hg8 _ h with h | h; exact hnew _ (by omega) h; omega)
   have h99 := h98.keep hc9 (fun h => by rcases hg8 _ h with h | h; exact hnew _ (by omega) h; omega)
   unfold ptrV at h49
   generalize putK4 s8 nm (gPar I) k = r9 at *
   obtain ⟨s9, e9⟩ := r9
   dsimp only at x9 y9 hz hcl2 ⊢
   refine go T 6 rfl ?_
   refine neT rfl rfl rfl rfl (by omega) ?_
   refine go T 5 rfl ?_
   refine ldB T h49 rfl rfl rfl rfl rfl rfl ?_
   refine ldB T h99 rfl rfl rfl rfl rfl rfl ?_
   refine go T 1 rfl ?_
   refine o1 rfl ?_
   refine op_call rfl rfl rfl (undo_has (nm := nm) y9.fs.at_ e9 (by omega)) ?_
   rintro _ wu ⟨rfl, hcu, pu, xu, hgu⟩
   refine go T 6 rfl ?_
   refine rndR ?_
   refine go T 2 rfl ?_
   have hzu := hcu.size
   refine post1 (.inl rfl) rfl rfl ⟨rfl, ?_, pu, st, false, ?_, fun h => absurd h hz, fun _ => rfl, y9.step hcu ⟨y9.fs.chgFp hcu, xu, fun j hj => by
    rcases hgu j hj with h | h
    ·exact y9.fs.fresh j h
    ·have := y9.fs.chg.size; omega⟩ hgu⟩
   ·refine ((hc07.mono (fun j hj _ => by cases hj)).trans hc79 (fun j hj _ => by simp [hj])).trans hcu (fun j hj hlt => ?_)
    rcases hg79 j hj with h | h
    ·simp [h]
    ·omega
   ·intro j hj
    rcases hgu j hj with h | h
    ·rcases hg79 j h with h | h
     ·exact .inl h
     ·exact .inr (by omega)
    ·exact .inr (by omega)
 obtain rfl : k = 4 := by omega
 have hput : putF s nm (gPar I) = (s8, 0) := by rw [hw]; rfl
 have hmk : makeF s ((num : Nat) : Int) I = (undoF (commitF s8 (encE (mkE ((num : Nat) : Int) I)).1).1 nm (commitF s8 (encE (mkE ((num : Nat) : Int) I)).1).2, (commitF s8 (encE (mkE ((num : Nat) : Int) I)).1).2) := by
  unfold makeF
  rw [Int.toNat_natCast, ← hnm]
  dsimp only
  rw [hput, if_neg (by simp)]
 rw [hmk]
 clear hw hmk h8 h88 hgtl
 have hGr8 : R4 b0 w8 vs (.slice Al (I.map (·.b)).length cl) vz vo (I.map (·.seg)) (I.map (·.b)) (I.map fun i => i.seg.size) (I.map fun i => !i.ok) := G.rows.keepO hc08 (fun j hj => .inl (hb0 j (by simp [hj])))
 have hGb8 := G.blk.keep hc08 (fun h => by have := hb0 gg (by simp [h]); have := G.fr; omega)
 have hgg8 := hGb8.lt
 clear hg4 hg7 hg9 hob
 unfold ptrV at h48
 obtain ⟨Az, nz, cz, rfl⟩ : ∃ (Az : Option Addr) (nz cz : Nat), vz = .slice Az nz cz := let ⟨A, c, h, _⟩ := hGr8.sizes.form; ⟨A, _, c, h⟩
 have hz08 := hc08.size
 have hgw8 : ∀ {k}, k < w8.heap.size → k < w8.heap.size := fun h => h
 refine go T 6 rfl ?_
 refine rndX ?_
 refine go T 3 rfl ?_
 refine W_walk 11 [] fol (by kernel_rfl) (by kernel_rfl) ?_
 refine Walk.plain rfl (by intro val w_ hR hp; exact op_move rfl rfl ⟨Chg.refl _ _, rfl⟩) ?_; dsimp only [na1, na2]
 refine Walk.plain rfl (by intro val w_ hR hp; exact op_move rfl rfl ⟨Chg.refl _ _, rfl⟩) ?_; dsimp only [na1, na2]
 refine Walk.plain rfl (by intro val w_ hR hp; exact op_nilCheck rfl rfl ⟨Chg.refl _ _, rfl⟩) ?_; dsimp only [na1, na2]
 refine Walk.plain rfl (by intro val w_ hR hp; exact op_fieldAddr T rfl rfl rfl rfl rfl rfl rfl rfl ⟨Chg.refl _ _, rfl⟩) ?_; dsimp only [na1, na2]
 refine Walk.plain rfl (by intro val w_ hR hp; exact op_loadB T rfl rfl rfl rfl (hGb8.keep0 hR) (by exact rfl) ⟨Chg.refl _ _, rfl⟩) ?_; dsimp only [na1, na2]
 refine Walk.plain rfl (by intro val w_ hR hp; exact op_loadB T rfl rfl rfl rfl (h78.keep0 hR) (by exact rfl) ⟨Chg.refl _ _, rfl⟩) ?_; dsimp only [na1, na2]
 refine Walk.plain rfl (by intro val w_ hR hp; exact op_len_slice T rfl rfl rfl rfl ⟨Chg.refl _ _, rfl⟩) ?_; dsimp only [na1, na2]
 refine Walk.plain rfl (by intro val w_ hR hp; exact op_loadB T rfl rfl rfl rfl (h78.keep0 hR) (by exact rfl) ⟨Chg.refl _ _, rfl⟩) ?_; dsimp only [na1, na2]
 refine Walk.plain (v := .int .u32 ((crcN (gPar I) : Nat) : Int)) rfl (by intro val w_ hR hp; exact op_call rfl rfl rfl (sumN_has Ab _ cb (gPar I) w_ (hob8.keep0 hR).bytes) (fun v w' h => h)) ?_; dsimp only [na1, na2]
 refine Walk.plain (v := .agg #[.int .i64 (num : Int), .slice none 0 0, (.slice Az nz cz), .int .i64 ((gPar I).length : Int), .int .u32 ((crcN (gPar I) : Nat) : Int)]) rfl (by intro val w_ hR hp; exact op_build T rfl rfl rfl rfl rfl rfl ⟨Chg.refl _ _, rfl⟩) ?_; dsimp only [na1, na2]
 refine Walk.rel (fun v w' => ∃ g13, v = .pointer (some ⟨g13, 0, none⟩) ∧ w8.heap.size ≤ g13 ∧ Blk w' g13 70 [.int .i64 0, .slice none 0 0, .slice none 0 0, .int .i64 0, .int .u32 0]) rfl (fun v w w' h hab => let ⟨g13, h1, h2, h3⟩ := h; ⟨g13, h1, h2, h3.keep0 hab⟩) (by intro val w_ hR hp; exact op_alloc T rfl rfl (fun g13 w9 hs9 hc9 h13 => ⟨hc9, g13, rfl, by have := hR.size; omega, h13⟩)) ?_; dsimp only [na1, na2]
 refine Walk.fin ?_
 intro val w9 hc9 hp
 obtain ⟨g13, hv13, hs13, h13⟩ : ∃ g13, val 10 = .pointer (some ⟨g13, 0, none⟩) ∧ w8.heap.size ≤ g13 ∧ Blk w9 g13 70 [.int .i64 0, .slice none 0 0, .slice none 0 0, .int .i64 0, .int .u32 0] := hp 10 (by omega) _ _ rfl rfl
 clear hp
 refine WL_sub (e' := [(0, .pointer (some ⟨gg, 0, none⟩)), (2, .pointer (some ⟨gm, 0, none⟩)), (4, .pointer (some ⟨g4, 0, none⟩)), (8, .int .i64 (num : Int)), (9, .pointer (some ⟨g9, 0, none⟩)), (13, .pointer (some ⟨g13, 0, none⟩)), (55, .agg #[.int .i64 (num : Int), .slice none 0 0, (.slice Az nz cz), .int .i64 ((gPar I).length : Int), .int .u32 ((crcN (gPar I) : Nat) : Int)])]) ⟨rfl, rfl, rfl, rfl, rfl, congrArg some hv13, rfl, trivial⟩ ?_
 have hall : ([Value.int .i64 (num : Int), .slice none 0 0, (.slice Az nz cz), .int .i64 ((gPar I).length : Int), .int .u32 ((crcN (gPar I) : Nat) : Int)].all (·.oneCell')) = true := by
  simp only [List.all_cons, List.all_nil, own_one hGr8.sizes]; rfl
 refine runL ?_
 refine op0 rfl rfl ?_
 refine op_store_agg T rfl rfl rfl rfl rfl hall h13 (by exact Nat.le_of_ble_eq_true rfl) (fun w10 hc10 h13n _ => ?_)
 replace h13 : Blk w10 g13 70 [.int .i64 (num : Int), .slice none 0 0, (.slice Az nz cz), .int .i64 ((gPar I).length : Int), .int .u32 ((crcN (gPar I) : Nat) : Int)] := h13n
 clear h13n
 have hc810 : Chg [] w8 w10 := hc9.trans hc10 (fun k hk hlt => by simp at hk; omega)
 have hGb10 := hGb8.keep0 hc810
 refine go T 5 rfl ?_
 refine adI rfl rfl rfl rfl (by omega) (by omega) ?_
 refine o1 rfl (op_build T rfl rfl rfl rfl rfl rfl ?_)
 refine o1 rfl ?_
 refine op_alloc T rfl rfl (fun g14 w11 hs11 hc11 h14 => ?_)
 have hs11 : w10.heap.size ≤ g14 := hs11
 have h13l := h13.lt
 refine op0 rfl rfl ?_
 refine op_store_agg T rfl rfl rfl rfl rfl rfl h14 (by exact Nat.le_of_ble_eq_true rfl) (fun w12 hc12 h14n _ => ?_)
 replace h14 : Blk w12 g14 49 [.int .i64 ((num : Int) + 1), .int .i64 0, .slice none 0 0, .slice none 0 0, .slice none 0 0, .slice none 0 0] := h14n
 clear h14n
 have hc1012 : Chg [] w10 w12 := hc11.trans hc12 (fun k hk hlt => by simp at hk; omega)
 have hc812 := hc810.trans' hc1012
 replace h13 := h13.keep0 hc1012
 have hGb12 := hGb8.keep0 hc812
 have hz812 := hc812.size
 have hz810 := hc810.size
 have hsk := hGr8.segs.readsK segL_len
 obtain ⟨As, cs, rfl, hsl1, hsl2⟩ := hsk.form
 unfold maxLen at hsl2
 have hml : (I.map (·.seg)).length = I.length := List.length_map _
 have hn1314 : g13 ≠ g14 := by omega
 clear hc9 hc10 hc11 hc12 hc1012 hc810 hGb10
 refine go T 8 rfl ?_
 refine ldB T hGb12 rfl rfl rfl rfl rfl rfl ?_
 refine go T 5 rfl ?_
 refine W_loop (σ := Nat × Value × Value × Value) (fun t => [(2, .pointer (some ⟨gm, 0, none⟩)), (4, .pointer (some ⟨g4, 0, none⟩)), (8, .int .i64 (num : Int)), (9, .pointer (some ⟨g9, 0, none⟩)), (13, .pointer (some ⟨g13, 0, none⟩)), (14, .pointer (some ⟨g14, 0, none⟩)), (62, .slice As (I.map (·.seg)).length cs), (63, .int .i64 (I.map (·.seg)).length), (64, .int .i64 (t.1 : Int))])
  (fun t w' => t.1 ≤ (I.map (·.seg)).length ∧ Chg [] w8 w' ∧ Blk w' g13 70 [.int .i64 (num : Int), t.2.1, (.slice Az nz cz), .int .i64 ((gPar I).length : Int), .int .u32 ((crcN (gPar I) : Nat) : Int)] ∧ Blk w' g14 49 [.int .i64 ((num : Int) + 1), .int .i64 0, t.2.2.2, t.2.2.1, .slice none 0 0, .slice none 0 0] ∧ M3 w8.heap.size w' t.2.1 t.2.2.1 t.2.2.2 (gNums (I.take t.1)) (gNums (I.take t.1)) (gAdds ((num : Nat) : Int) (I.take t.1)))
  (fun t => (I.map (·.seg)).length - t.1) (0, .slice none 0 0, .slice none 0 0, .slice none 0 0) ⟨rfl, rfl, rfl, rfl, rfl, rfl, rfl, rfl, rfl, trivial⟩ ⟨Nat.zero_le _, hc812, h13, h14, ⟨Own.nil _ _ _, Own.nil _ _ _, Own.nil _ _ _, fun k hk => by simp [Value.ownBlock] at hk, fun k hk => by simp [Value.ownBlock] at hk, fun k hk => by simp [Value.ownBlock] at hk, fun k hk => by simp [Value.ownBlock] at hk⟩⟩ ?_
 clear h13 h14 hc812 hz812 hGb12 h13l
 rintro ⟨i, un, ud, ua⟩ wi ⟨hi, hci, h13, h14, hM⟩
 dsimp only at hi h13 h14 hM ⊢
 refine run ?_
 refine go T 2 rfl ?_
 refine ltS rfl rfl rfl rfl (fun hcmp => ?_) (fun hcmp => ?_)
 ·have hlt : i < (I.map (·.seg)).length := by omega
  have hlI : i < I.length := by omega
  have hxI := List.getElem?_eq_getElem hlI
  have hx : (I.map (·.seg))[i]? = some I[i].seg := by rw [List.getElem?_map, hxI]; rfl
  have hnx1 := gNums_snoc hxI
  have hnx2 := gAdds_snoc (num := ((num : Nat) : Int)) hxI
  have hLd : (gNums (I.take i)).length ≤ 100 := by unfold gNums; rw [List.length_map, List.length_take]; omega
  have hLa : (gAdds ((num : Nat) : Int) (I.take i)).length ≤ 100 := by unfold gAdds; rw [List.length_mapIdx, List.length_take]; omega
  obtain ⟨ad, rfl, he⟩ := (hsk.keepR hci).at hx
  generalize gNums (I.take i) = Ld at *
  generalize gAdds ((num : Nat) : Int) (I.take i) = La at *
  generalize I[i].seg = y at *
  have hMl := hM
  refine go T 11 rfl ?_
  refine o1 rfl (op_indexK T rfl rfl rfl rfl rfl (by omega) ?_)
  refine o1 rfl (op_loadE T he rfl rfl rfl rfl rfl ?_)
  refine o1 rfl ?_
  refine op_alloc T rfl rfl (fun g16 wj hsj hcj h16 => ?_)
  have hsj : wi.heap.size ≤ g16 := hsj
  refine go T 1 rfl ?_
  refine op0 rfl rfl ?_
  refine op_store_agg T rfl rfl rfl rfl rfl rfl h16 (by exact Nat.le_of_ble_eq_true rfl) (fun wk hck h16n _ => ?_)
  replace h16 : Blk wk g16 26 [.int .i64 y.num, .bool y.sealed, .int .i64 y.group, .int .i64 y.member, .int .i64 y.size, .int .u32 (y.sum : Int)] := h16n
  clear h16n he
  have hcik : Chg [] wi wk := hcj.trans hck (fun k hk hlt => by simp at hk; omega)
  have h13l := h13.lt
  have h14l := h14.lt
  replace h13 := h13.keep0 hcik
  replace h14 := h14.keep0 hcik
  have hMk := hM.keep0 hcik
  have hc8k := hci.trans' hcik
  have hz8k := hc8k.size
  have o16n : ∀ k, un.ownBlock = some k → k < wi.heap.size := fun k hk => hM.nums.lt hk
  have o16d : ∀ k, ud.ownBlock = some k → k < wi.heap.size := fun k hk => hM.dels.lt hk
  have o16a : ∀ k, ua.ownBlock = some k → k < wi.heap.size := fun k hk => hM.adds.lt hk
  clear hcj hck hM
  refine go T 5 rfl ?_
  refine ldB T h13 rfl rfl rfl rfl rfl rfl ?_
  refine go T 1 rfl ?_
  refine ldB T h16 rfl rfl rfl rfl rfl rfl ?_
  refine o1 rfl ?_
  refine op_buildSlice T rfl rfl rfl rfl rfl rfl rfl (fun gb wl hsl hcl h74 => ?_)
  have h74 : Blk wl gb 2 [i64V y.num] := h74
  have hMl2 := hMk.keep0 hcl
  have h13b := h13.keep0 hcl
  have h14b := h14.keep0 hcl
  have h16b := h16.keep0 hcl
  have hc8l := hc8k.trans' hcl
  have hz8l := hc8l.size
  have hzkl := hcl.size
  have h16l := h16.lt
  refine o1 rfl ?_
  refine op_append1 T (f := i64V) rfl rfl rfl rfl rfl rfl rfl rfl rfl hMl2.nums h74 rfl (by omega) (fun un' wm hun hcm hbm => ?_)
  have h13c := h13b.keep hcm (out_of h13b hMl2.nums (by decide))
  have h14c := h14b.keep hcm (out_of h14b hMl2.nums (by decide))
  have h16c := h16b.keep hcm (out_of h16b hMl2.nums (by decide))
  have hMm := hMl2.pushN hun hcm hbm hz8l
  have hc8m : Chg [] w8 wm := hc8l.trans hcm (fun k hk hlt => by have := hMl2.frn k (by simpa using hk); omega)
  have hz8m := hc8m.size
  have o16n' : ∀ k, un'.ownBlock = some k → k ≠ g16 := fun k hk => by
   rcases hbm with h1 | ⟨k', h1, h2⟩
   ·have := o16n k (by rw [← h1]; exact hk); omega
   ·rw [h1] at hk; injection hk with hk; omega
  refine go T 1 rfl ?_
  refine op0 rfl rfl ?_
  refine op_store T rfl rfl rfl rfl rfl (own_one hun) h13c (by simp) (fun wn hcn h13n _ => ?_)
  replace h13 : Blk wn g13 70 [.int .i64 (num : Int), un', (.slice Az nz cz), .int .i64 ((gPar I).length : Int), .int .u32 ((crcN (gPar I) : Nat) : Int)] := h13n
  have hMn := hMm.keepT h13c (by decide) (by decide) hcn
  have h14d := h14c.keep hcn (by simp; omega)
  have h16d := h16c.keep hcn (by simp; omega)
  have hc8n : Chg [] w8 wn := hc8m.trans hcn (fun k hk hlt => by simp at hk; omega)
  clear h13n h13b h13c h14b h14c h16b h16c hMl2 hMm hMk hcl hcm hcn hc8l hc8m
  refine go T 7 rfl ?_
  refine op0 rfl rfl ?_
  refine op_store T rfl rfl rfl rfl rfl rfl h16d (by simp) (fun wo hco h16e _ => ?_)
  have h13e := h13.keep hco (by simp; omega)
  have h14e := h14d.keep hco (by simp; omega)
  have hMo : M3 w8.heap.size wo un' ud ua (Ld ++ [y.num]) Ld La := ⟨hMn.nums.keep hco (fun k hk hm => o16n' k hk (by simpa using hm)), hMn.dels.keep hco (fun k hk hm => by have := o16d k hk; simp at hm; omega), hMn.adds.keep hco (fun k hk hm => by have := o16a k hk; simp at hm; omega), hMn.apart, hMn.frn, hMn.frd, hMn.fra⟩
  have hc8o : Chg [] w8 wo := hc8n.trans hco (fun k hk hlt => by simp at hk; omega)
  refine go T 1 rfl ?_
  refine op0 rfl rfl ?_
  refine op_store T rfl rfl rfl rfl rfl rfl h16e (by simp) (fun wr hcr h16f _ => ?_)
  have h13 := h13e.keep hcr (by simp; omega)
  have h14 := h14e.keep hcr (by simp; omega)
  have hMr : M3 w8.heap.size wr un' ud ua (Ld ++ [y.num]) Ld La := ⟨hMo.nums.keep hcr (fun k hk hm => o16n' k hk (by simpa using hm)), hMo.dels.keep hcr (fun k hk hm => by have := o16d k hk; simp at hm; omega), hMo.adds.keep hcr (fun k hk hm => by have := o16a k hk; simp at hm; omega), hMo.apart, hMo.frn, hMo.frd, hMo.fra⟩
  have hc8r : Chg [] w8 wr := hc8o.trans hcr (fun k hk hlt => by simp at hk; omega)
  have hz8r := hc8r.size
  obtain ⟨y', hy'⟩ : ∃ y', y' = mkS ((num : Nat) : Int) i y := ⟨_, rfl⟩
  have h16' : Blk wr g16 26 [.int .i64 y.num, .bool y.sealed, .int .i64 ((num : Nat) : Int), .int .i64 (i : Int), .int .i64 y.size, .int .u32 (y.sum : Int)] := h16f
  have h16 : Blk wr g16 26 (segL y') := by rw [hy']; exact h16'
  rw [← hy'] at hnx2
  clear h13e h14e h14d h16d h16e h16f hMn hMo hco hcr hc8n hc8o
  obtain ⟨S, hS⟩ : ∃ S : List Nat, S = ud.ownBlock.toList ++ ua.ownBlock.toList ++ [g14] := ⟨_, rfl⟩
  have hSd : ∀ k ∈ ud.ownBlock.toList, k ∈ S := fun k hk => by rw [hS]; simp only [List.mem_append]; exact .inl (.inl hk)
  have hSa : ∀ k ∈ ua.ownBlock.toList, k ∈ S := fun k hk => by rw [hS]; simp only [List.mem_append]; exact .inl (.inr hk)
  have hSg : g14 ∈ S := by rw [hS]; simp
  have hSc : ∀ k ∈ S, k ∈ ud.ownBlock.toList ∨ k ∈ ua.ownBlock.toList ∨ k = g14 := fun k hk => by
   rw [hS] at hk
   simp only [List.mem_append, List.mem_singleton] at hk
   rcases hk with (h | h) | h
   ·exact .inl h
   ·exact .inr (.inl h)
   ·exact .inr (.inr h)
  have hSlt : ∀ k ∈ S, k < wr.heap.size := fun k hk => by
   rcases hSc k hk with h | h | h
   ·exact hMr.dels.lt (by simpa using h)
   ·exact hMr.adds.lt (by simpa using h)
   ·rw [h]; exact h14.lt
  have hSge : ∀ k ∈ S, w8.heap.size ≤ k := fun k hk => by
   rcases hSc k hk with h | h | h
   ·exact hMr.frd k (by simpa using h)
   ·exact hMr.fra k (by simpa using h)
   ·omega
  have h16S : g16 ∉ S := fun hk => by
   rcases hSc g16 hk with h | h | h
   ·have := o16d g16 (by simpa using h); omega
   ·have := o16a g16 (by simpa using h); omega
   ·omega
  have h13S : g13 ∉ S := fun hk => by
   rcases hSc g13 hk with h | h | h
   ·exact out_of h13 hMr.dels (by decide) h
   ·exact out_of h13 hMr.adds (by decide) h
   ·omega
  have h14d : g14 ∉ ud.ownBlock.toList := out_of h14 hMr.dels (by decide)
  have h14a : g14 ∉ ua.ownBlock.toList := out_of h14 hMr.adds (by decide)
  refine go T 2 rfl ?_
  refine H.W_walkc 15 [5, 10, 12, 14] id (Chg S) (fun w' => Chg S wr w') (mkJ w8.heap.size g14 ((num : Int) + 1) un' ud ua (Ld ++ [y.num]) Ld La y.num y') fol (by kernel_rfl) (by kernel_rfl) (by kernel_rfl) (by kernel_rfl) (fun us w1 w2 h hc => mkJ_firm us w1 w2 h hc) (fun w1 w2 h hc => h.trans' hc) (Chg.refl _ _) ⟨h14, hMr⟩ ?_
  refine H.Walk.plain (v := .pointer (some ⟨g14, 3, none⟩)) (by rfl) rfl (by intro val us w_ hh; exact op_fieldAddr T rfl rfl rfl rfl rfl rfl rfl rfl ⟨Chg.refl _ _, rfl⟩) ?_; dsimp only [na1, na2]
  refine H.Walk.plain (v := ud) (by rfl) rfl (by intro val us w_ hh; exact op_load T rfl rfl rfl rfl ((mkJ_blk hh.inv (by have := hh.le (k := 0) (c := 5) rfl rfl rfl; omega)).cell rfl) ⟨Chg.refl _ _, rfl⟩) ?_; dsimp only [na1, na2]
  refine H.Walk.plain (v := .pointer (some ⟨g16, 0, none⟩)) (by rfl) rfl (by intro val us w_ hh; exact op_fieldAddr T rfl rfl rfl rfl rfl rfl rfl rfl ⟨Chg.refl _ _, rfl⟩) ?_; dsimp only [na1, na2]
  refine H.Walk.plain (v := .int .i64 y.num) (by rfl) rfl (by intro val us w_ hh; exact op_load T rfl rfl rfl rfl ((h16'.keep hh.base h16S).cell rfl) ⟨Chg.refl _ _, rfl⟩) ?_; dsimp only [na1, na2]
  refine H.Walk.rel (by rfl) (fun v w' => ∃ g7, v = .slice (some ⟨g7, 0, none⟩) 1 1 ∧ Blk w' g7 2 [i64V y.num] ∧ wr.heap.size ≤ g7) rfl (fun v w w' h hab => let ⟨g7, h1, h2, h3⟩ := h; ⟨g7, h1, (by rcases hab with hab | hab; exact h2.keep0 hab; exact h2.keep hab (fun hm => by have := hSlt g7 hm; omega)), h3⟩) ?_ ?_
  ·intro val us w_ hh
   exact op_buildSlice T rfl rfl rfl rfl rfl rfl rfl (fun g7 w7 hs7 hc7 hg7 => ⟨hc7, g7, rfl, hg7, by have := hh.base.size; omega⟩)
  dsimp only [List.nil_append, List.cons_append]
  refine H.Walk.turn (k := 0) (by rfl) rfl ?_ ?_
  ·intro val us w_ hh
   have h1 := hh.self (k := 0) rfl
   obtain rfl := list0 (show us.length = 0 by omega)
   obtain ⟨hJb, hJr⟩ := hh.inv
   have hz_ := hh.base.size
   obtain ⟨g7, he7, hg7, hs7⟩ : ∃ g7, val 4 = .slice (some ⟨g7, 0, none⟩) 1 1 ∧ Blk w_ g7 2 [i64V y.num] ∧ wr.heap.size ≤ g7 := hh.hp 4 rfl _ rfl
   refine op_append1 T (f := i64V) rfl rfl rfl (congrArg some he7) rfl rfl rfl rfl rfl hJr.dels hg7 rfl (by omega) (fun v w7 hu7 hc7 hb7 => ?_)
   have hG : Chg S w_ w7 := hc7.mono (fun k hk _ => hSd k hk)
   have hB7 : Chg S wr w7 := hh.base.trans hG (fun k hk _ => hk)
   exact ⟨hG, hB7, hJb.keep hc7 h14d, hJr.pushD hu7 hc7 hb7 (by omega)⟩
  dsimp only [List.nil_append, List.cons_append]
  refine H.Walk.plain (v := .pointer (some ⟨g14, 2, none⟩)) (by rfl) rfl (by intro val us w_ hh; exact op_fieldAddr T rfl rfl rfl rfl rfl rfl rfl rfl ⟨Chg.refl _ _, rfl⟩) ?_; dsimp only [na1, na2]
  refine H.Walk.plain (v := ua) (by rfl) rfl (by intro val us w_ hh; exact op_load T rfl rfl rfl rfl ((mkJ_blk hh.inv (by have := hh.le (k := 1) (c := 10) rfl rfl rfl; omega)).cell rfl) ⟨Chg.refl _ _, rfl⟩) ?_; dsimp only [na1, na2]
  refine H.Walk.plain (v := .agg (segL y').toArray) (by rfl) rfl (by intro val us w_ hh; exact op_load_agg T rfl rfl rfl rfl (h16.keep hh.base h16S) (by exact Nat.le_of_ble_eq_true rfl) (by exact rfl) ⟨Chg.refl _ _, rfl⟩) ?_; dsimp only [na1, na2]
  refine H.Walk.rel (by rfl) (fun v w' => ∃ g7, v = .slice (some ⟨g7, 0, none⟩) 1 1 ∧ Blk w' g7 26 (segL y') ∧ wr.heap.size ≤ g7) rfl (fun v w w' h hab => let ⟨g7, h1, h2, h3⟩ := h; ⟨g7, h1, (by rcases hab with hab | hab; exact h2.keep0 hab; exact h2.keep hab (fun hm => by have := hSlt g7 hm; omega)), h3⟩) ?_ ?_
  ·intro val us w_ hh
   exact op_buildSlice T rfl rfl rfl rfl rfl rfl rfl (fun g7 w7 hs7 hc7 hg7 => ⟨hc7, g7, rfl, hg7, by have := hh.base.size; omega⟩)
  dsimp only [List.nil_append, List.cons_append]
  refine H.Walk.turn (k := 1) (by rfl) rfl ?_ ?_
  ·intro val us w_ hh
   have h1 := hh.self (k := 1) rfl
   have h2 := hh.lt (k := 0) (c := 5) rfl rfl
   obtain ⟨ua', rfl⟩ := list1 (show us.length = 1 by omega)
   obtain ⟨hJb, hJr⟩ := hh.inv
   have hz_ := hh.base.size
   obtain ⟨g7, he7, hg7, hs7⟩ : ∃ g7, val 9 = .slice (some ⟨g7, 0, none⟩) 1 1 ∧ Blk w_ g7 26 (segL y') ∧ wr.heap.size ≤ g7 := hh.hp 9 rfl _ rfl
   refine op_appendK T segL_len rfl rfl rfl (congrArg some he7) rfl rfl rfl rfl rfl rfl hJr.adds hg7 (segL_one _) (by omega) (fun v w7 hu7 hc7 hb7 => ?_)
   have hG : Chg S w_ w7 := hc7.mono (fun k hk _ => hSa k hk)
   have hB7 : Chg S wr w7 := hh.base.trans hG (fun k hk _ => hk)
   exact ⟨hG, hB7, hJb.keep hc7 h14a, hJr.pushA hu7 hc7 hb7 (by omega)⟩
  dsimp only [List.nil_append, List.cons_append]
  refine H.Walk.plain (v := .pointer (some ⟨g14, 3, none⟩)) (by rfl) rfl (by intro val us w_ hh; exact op_fieldAddr T rfl rfl rfl rfl rfl rfl rfl rfl ⟨Chg.refl _ _, rfl⟩) ?_; dsimp only [na1, na2]
  refine H.Walk.turn (k := 2) (by rfl) rfl ?_ ?_
  ·intro val us w_ hh
   have h1 := hh.self (k := 2) rfl
   have h2 := hh.lt (k := 1) (c := 10) rfl rfl
   obtain ⟨ua', ub, rfl⟩ := list2 (show us.length = 2 by omega)
   obtain ⟨hJb, hJr⟩ := hh.inv
   have hz_ := hh.base.size
   have hv : val 5 = ua' := hh.vals 0 5 ua' rfl rfl
   refine op_store T rfl rfl (show some (val 5) = some ua' by rw [hv]) rfl rfl (own_one hJr.dels) hJb (by simp) (fun w7 hc7 hn7 _ => ?_)
   have hG : Chg S w_ w7 := hc7.mono (fun k hk _ => by rw [List.mem_singleton.1 hk]; exact hSg)
   have hB7 : Chg S wr w7 := hh.base.trans hG (fun k hk _ => hk)
   exact ⟨hG, hB7, hn7, hJr.keepT hJb (by decide) (by decide) hc7⟩
  dsimp only [List.nil_append, List.cons_append]
  refine H.Walk.plain (v := .pointer (some ⟨g14, 2, none⟩)) (by rfl) rfl (by intro val us w_ hh; exact op_fieldAddr T rfl rfl rfl rfl rfl rfl rfl rfl ⟨Chg.refl _ _, rfl⟩) ?_; dsimp only [na1, na2]
  refine H.Walk.turn (k := 3) (by rfl) rfl ?_ ?_
  ·intro val us w_ hh
   have h1 := hh.self (k := 3) rfl
   have h2 := hh.lt (k := 2) (c := 12) rfl rfl
   obtain ⟨ua', ub, uc, rfl⟩ := list3 (show us.length = 3 by omega)
   obtain ⟨hJb, hJr⟩ := hh.inv
   have hz_ := hh.base.size
   have hv : val 10 = ub := hh.vals 1 10 ub rfl rfl
   refine op_store T rfl rfl (show some (val 10) = some ub by rw [hv]) rfl rfl (own_one hJr.adds) hJb (by simp) (fun w7 hc7 hn7 _ => ?_)
   have hG : Chg S w_ w7 := hc7.mono (fun k hk _ => by rw [List.mem_singleton.1 hk]; exact hSg)
   have hB7 : Chg S wr w7 := hh.base.trans hG (fun k hk _ => hk)
   exact ⟨hG, hB7, hn7, hJr.keepT hJb (by decide) (by decide) hc7⟩
  dsimp only [List.nil_append, List.cons_append]
  refine H.Walk.fin (H.endC ?_)
  intro val us w7 hB7 hJ7 hl7 _ _
  obtain ⟨d', a', ux, uy, rfl⟩ := list4 hl7
  obtain ⟨hJb, hJr⟩ := hJ7
  have hc87 : Chg [] w8 w7 := hc8r.trans hB7 (fun k hk hlt => by have := hSge k hk; omega)
  have h137 := h13.keep hB7 h13S
  refine WL_sub (e' := [(2, .pointer (some ⟨gm, 0, none⟩)), (4, .pointer (some ⟨g4, 0, none⟩)), (8, .int .i64 (num : Int)), (9, .pointer (some ⟨g9, 0, none⟩)), (13, .pointer (some ⟨g13, 0, none⟩)), (14, .pointer (some ⟨g14, 0, none⟩)), (62, .slice (some ad) (I.map (·.seg)).length cs), (63, .int .i64 (I.map (·.seg)).length), (64, .int .i64 (i : Int))]) ⟨rfl, rfl, rfl, rfl, rfl, rfl, rfl, rfl, rfl, trivial⟩ ?_
  refine runL ?_
  refine go T 4 rfl ?_
  refine adI rfl rfl rfl rfl (by omega) (by omega) ?_
  refine go T 2 rfl ?_
  refine Round_n (i + 1, un', d', a') ⟨rfl, rfl, rfl, rfl, rfl, rfl, rfl, rfl, rfl, trivial⟩ ⟨by dsimp only; omega, hc87, h137, hJb, ?_⟩ (by dsimp only; omega)
  dsimp only
  rw [hnx1, hnx2]
  exact hJr
 obtain rfl : i = (I.map (·.seg)).length := by omega
 rw [show I.take (I.map (·.seg)).length = I from by rw [hml, List.take_length]] at hM
 have hx8i := x8.keep0 hci
 have h4i := h48.keep0 hci
 have h9i := h98.keep0 hci
 have hzi := hci.size
 have h13l := h13.lt
 have h14l := h14.lt
 obtain ⟨Aa, ca, hua, _, _⟩ := hM.adds.form
 obtain ⟨Ad, cd, hud, _, _⟩ := hM.dels.form
 refine go T 6 rfl ?_
 refine rndX ?_
 refine go T 4 rfl ?_
 refine o1 rfl (op_load_agg T rfl rfl rfl rfl h13 (by exact Nat.le_of_ble_eq_true rfl) (by exact rfl) ?_)
 refine o1 rfl ?_
 refine op_buildSlice T rfl rfl rfl rfl rfl rfl rfl (fun gp wp hsp hcp hgp => ?_)
 have hgp : Blk wp gp 70 [.int .i64 (num : Int), un, .slice Az nz cz, .int .i64 ((gPar I).length : Int), .int .u32 ((crcN (gPar I) : Nat) : Int)] := hgp
 have hsp : wi.heap.size ≤ gp := hsp
 have hMp := hM.keep0 hcp
 have h14p := h14.keep0 hcp
 refine go T 1 rfl ?_
 refine op0 rfl rfl ?_
 refine op_store T rfl rfl rfl rfl rfl rfl h14p (by simp) (fun wq hcq h14n _ => ?_)
 have h14q : Blk wq g14 49 [.int .i64 ((num : Int) + 1), .int .i64 0, ua, ud, .slice (some ⟨gp, 0, none⟩) 1 1, .slice none 0 0] := h14n
 have hciq : Chg [g14] wi wq := (hcp.mono (fun k hk _ => by cases hk)).trans hcq (fun k hk _ => hk)
 have hc8q : Chg [] w8 wq := hci.trans hciq (fun k hk hlt => by simp at hk; omega)
 have hMq := hMp.keepT h14p (by decide) (by decide) hcq
 have hgpq := hgp.keep hcq (by simp; omega)
 have xq := x8.keep0 hc8q
 have h4q := h48.keep0 hc8q
 have h9q := h98.keep0 hc8q
 have hzq := hc8q.size
 have hG8z := G.rows.sizes
 have hvz : Own wq 3 1 (.slice Az nz cz) (I.map fun i => i.seg.size).length ((I.map fun i => i.seg.size).map i64V) := hGr8.sizes.keep0 hc8q
 clear h14 h13 h14p hgp hcp hcq h14n hM hMp hx8i h4i h9i hci hciq
 obtain ⟨e, he⟩ : ∃ e, e = mkE ((num : Nat) : Int) I := ⟨_, rfl⟩
 obtain ⟨X, hX⟩ : ∃ X : List ParS, X = [⟨⟨mkP ((num : Nat) : Int) I, un, .slice Az nz cz⟩, own_one hMq.nums, rfl⟩] := ⟨_, rfl⟩
 have hXp : X.map (·.1.p) = e.pars := by rw [hX, he]; rfl
 obtain ⟨k1, k2, k3, k4⟩ := plain_keys hok
 have happ := applyM_plain (st := st) (first := false) hXp
 rw [hnum, ← he] at hap
 rw [hnum, ← he] at hEI
 rw [hap] at happ
 have hout : ∀ k, w8.heap.size ≤ k → k ∉ gm :: p8.fp g := fun k hk hm => by
  rcases List.mem_cons.1 hm with h | h
  ·have := x8.lt; omega
  ·have := x8.fs.at_.lt k h; omega
 have houtz : ∀ k, (Value.slice Az nz cz).ownBlock = some k → k ∉ gm :: p8.fp g := fun k hk hm => by
  have h1 := G.rows.frz k hk
  have h2 := hG8z.lt hk
  rcases List.mem_cons.1 hm with h | h
  ·have := hb0 gm (by simp); omega
  ·rcases hg8 k h with h | h
   ·have := hb0 k (by simp [h]); omega
   ·omega
 have hrow : Firm (gm :: p8.fp g) wq (fun w => SliceK 5 (RdL parL) w (.slice (some ⟨gp, 0, none⟩) 1 1) [⟨mkP ((num : Nat) : Int) I, un, .slice Az nz cz⟩]) := row_firm parL_len (L := [⟨mkP ((num : Nat) : Int) I, un, .slice Az nz cz⟩]) hgpq (by simp) (hout gp (by omega))
 have hrd : Firm (gm :: p8.fp g) wq (fun w => ERd w ⟨e, ua, ud, .slice (some ⟨gp, 0, none⟩) 1 1, .slice none 0 0, X.map (·.1)⟩) := fun w1 h1 => by
  have hn1 : SliceOf Ri64 w1 un (gNums I) := (hMq.nums.keep h1 (fun k hk => hout k (hMq.frn k hk))).reads rfl (fun j x u hx hu => by
   rw [List.getElem?_map, hx] at hu
   injection hu with hu
   obtain ⟨it, hit, rfl⟩ := List.mem_map.1 (List.mem_of_getElem? hx)
   exact ⟨hu.symm, (hi64 it hit).1⟩)
  have hd1 : SliceOf Ri64 w1 ud (gNums I) := (hMq.dels.keep h1 (fun k hk => hout k (hMq.frd k hk))).reads rfl (fun j x u hx hu => by
   rw [List.getElem?_map, hx] at hu
   injection hu with hu
   obtain ⟨it, hit, rfl⟩ := List.mem_map.1 (List.mem_of_getElem? hx)
   exact ⟨hu.symm, (hi64 it hit).1⟩)
  have hz1 : SliceOf Ri64 w1 (.slice Az nz cz) (I.map fun i => i.seg.size) := (hvz.keep h1 houtz).reads rfl (fun j x u hx hu => by
   rw [List.getElem?_map, hx] at hu
   injection hu with hu
   obtain ⟨it, hit, rfl⟩ := List.mem_map.1 (List.mem_of_getElem? hx)
   exact ⟨hu.symm, (hi64 it hit).2⟩)
  rw [he, hX]
  exact ⟨(hMq.adds.keep h1 (fun k hk => hout k (hMq.fra k hk))).readsK segL_len, hd1, hrow w1 h1, rfl, fun q hq => by rw [List.mem_singleton.1 hq]; exact ⟨hn1, hz1⟩, SliceOf.nil _ _⟩
 rw [← he]
 cases ha : applyM st e X false with
 | none => rw [ha] at happ; cases happ
 | some st'' =>
 rw [ha] at happ
 injection happ with happ
 have h4S : g4 ∉ gm :: p8.fp g := fun hm => by
  rcases List.mem_cons.1 hm with h | h
  ·have := x.lt; omega
  ·rcases hg8 g4 h with h | h
   ·exact hnew g4 (by omega) h
   ·omega
 have h9S : g9 ∉ gm :: p8.fp g := fun hm => by
  rcases List.mem_cons.1 hm with h | h
  ·have := x.lt; omega
  ·rcases hg8 g9 h with h | h
   ·exact hnew g9 (by omega) h
   ·omega
 have h14S := hout g14 (by omega)
 refine go T 3 rfl ?_
 refine Q.W_walkq 5 4 (gm :: p8.fp g) fol (by kernel_rfl) (by kernel_rfl) ?_
 refine Q.Walk.plain (v := .pointer (some ⟨g, 0, none⟩)) rfl rfl (by intro val w_ hR hp; exact op_load T rfl rfl rfl rfl ((h4q.keep hR h4S).cell rfl) ⟨Chg.refl _ _, rfl⟩) ?_; dsimp only [na1, na2]
 refine Q.Walk.plain (v := .string (str nm)) rfl rfl (by intro val w_ hR hp; exact op_load T rfl rfl rfl rfl ((h9q.keep hR h9S).cell rfl) ⟨Chg.refl _ _, rfl⟩) ?_; dsimp only [na1, na2]
 refine Q.Walk.plain rfl rfl (by intro val w_ hR hp; exact op_move rfl rfl ⟨Chg.refl _ _, rfl⟩) ?_; dsimp only [na1, na2]
 refine Q.Walk.plain (v := .agg #[.int .i64 e.next, .int .i64 e.seq, ua, ud, .slice (some ⟨gp, 0, none⟩) 1 1, .slice none 0 0]) rfl rfl (by intro val w_ hR hp; exact op_load_agg T rfl rfl rfl rfl (h14q.keep hR h14S) (by exact Nat.le_of_ble_eq_true rfl) (by rw [he]; exact rfl) ⟨Chg.refl _ _, rfl⟩) ?_; dsimp only [na1, na2]
 refine Q.Walk.turn rfl (fun v w' => v = .int .i64 (commitF s8 (encE e).1).2 ∧ Chg (gm :: p8.fp g) wq w' ∧ ∃ p', Grows wq g p8 p' ∧ ManO w0 w' gm g (commitF s8 (encE e).1).1 p' (if (commitF s8 (encE e).1).2 = 0 then st'' else st) (decide ((commitF s8 (encE e).1).2 ≠ 0))) rfl (fun v a b h hab => ⟨h.1, h.2.1.trans' hab, let ⟨p', h3, h4⟩ := h.2.2; ⟨p', h3, h4.keep0 hab⟩⟩) ?_ ?_
 ·intro val w_ hR hp
  refine op_call rfl rfl rfl (commit_has (xq.keep0 hR) hEI (hrd.step0 hR) k1 k2 (by omega) (by omega) ha (by omega)) ?_
  rintro v w' ⟨h1, h2, p', h3, h4⟩
  exact ⟨h2, h1, (hR.mono (fun k hk _ => by cases hk)).trans h2 (fun k hk _ => hk), p', fun k hk => (h3 k hk).imp id (fun h => by have := hR.size; omega), h4⟩
 dsimp only [List.nil_append, List.cons_append]
 refine Q.Walk.fin ?_
 intro val ws hcs hp
 obtain ⟨hv4, _, ps, hgs, xs⟩ : val 4 = .int .i64 (commitF s8 (encE e).1).2 ∧ Chg (gm :: p8.fp g) wq ws ∧ ∃ p', Grows wq g p8 p' ∧ ManO w0 ws gm g (commitF s8 (encE e).1).1 p' (if (commitF s8 (encE e).1).2 = 0 then st'' else st) (decide ((commitF s8 (encE e).1).2 ≠ 0)) := hp 4 (by omega) _ _ rfl rfl
 clear hp
 refine WL_sub (e' := [(97, .pointer (some ⟨g, 0, none⟩)), (98, .string (str nm)), (101, .int .i64 (commitF s8 (encE e).1).2)]) ⟨rfl, rfl, congrArg some hv4, trivial⟩ ?_
 have hcc : (commitF s8 (encE e).1).1.calls ≤ s8.calls + 2 := by
  unfold commitF
  split
  ·have h1 : ∀ (t : FsM) (k : Nm), (syncM t k).1.calls = t.calls + 1 := fun t k => by unfold syncM; simp only; (repeat' split) <;> rfl
   rw [h1, appendM_callsG]; omega
  ·rw [appendM_callsG]; omega
 generalize hcf : commitF s8 (encE e).1 = r at *
 obtain ⟨sr, er⟩ := r
 dsimp only at xs hcc ⊢
 refine runL ?_
 refine o1 rfl ?_
 refine op_call rfl rfl rfl (undo_has (nm := nm) xs.fs.at_ er (by omega)) ?_
 rintro _ wu ⟨rfl, hcu, pu, xu, hgu⟩
 refine go T 4 rfl ?_
 have hzs := hcs.size
 have hc0s : Chg (gm :: p.fp g) w ws := ((hc08.mono (fun k hk _ => by simp [hk])).trans hc8q (fun k hk _ => by cases hk)).trans hcs (fun k hk hlt => by
  rcases List.mem_cons.1 hk with h | h
  ·simp [h]
  ·rcases hg8 k h with h | h
   ·simp [h]
   ·omega)
 have hgr : Grows w g p pu := fun k hk => by
  rcases hgu k hk with h | h
  ·rcases hgs k h with h | h
   ·rcases hg8 k h with h | h
    ·exact .inl h
    ·exact .inr (by omega)
   ·exact .inr (by omega)
  ·exact .inr (by omega)
 refine post1 (.inl rfl) rfl rfl ⟨rfl, hc0s.trans hcu (fun k hk hlt => ?_), pu, _, _, hgr, fun h => ?_, fun h => ?_, xs.step hcu ⟨xs.fs.chgFp hcu, xu, fun j hj => by
  rcases hgu j hj with h | h
  ·exact xs.fs.fresh j h
  ·have := xs.fs.chg.size; omega⟩ hgu⟩
 ·rcases hgs k hk with h | h
  ·rcases hg8 k h with h | h
   ·simp [h]
   ·omega
  ·omega
 ·rw [if_pos h]
  exact ⟨happ, by rw [h]; rfl⟩
 ·rw [if_neg h]
end Go.Proofs.YtiadjkjlifnopaaGreatDoor.Tryz
/-! Manifests: Pars of one that is there. -/
namespace Go.Proofs.YtiadjkjlifnopaaGreatDoor.Tryz
open Go Go.Vc
theorem cloneI64_has (A : Option Addr) (n c : Nat) (l : List Int) (w : World) (hl : SliceOf Ri64 w (.slice A n c) l) (hb : l.length ≤ 1000000) :
  Has Tryz.prog 71 #[.slice A n c] w (fun v w' => Chg [] w w' ∧ Own w' 2 1 v l.length (l.map i64V) ∧ ∀ g, v.ownBlock = some g → w.heap.size ≤ g) := by
 obtain ⟨rfl, hl1, hl2⟩ := hl.len
 refine enter Tryz.func71 rfl rfl (by decide) rfl (e := [(0, .slice A l.length c)]) ⟨rfl, trivial⟩ ?_
 refine run ?_
 refine go T 9 rfl ?_
 refine o1 rfl ?_
 refine op_eql_nil T rfl rfl rfl rfl (fun hA => ?_) (fun ad hA => ?_)
 ·have hl0 : l = [] := by
   cases l with
   | nil => rfl
   | cons c l => obtain ⟨ad, u, he, _⟩ := hl.get (i := 0) (x := c) rfl; rw [hA] at he; cases he
  subst hl0
  refine go T 10 rfl ?_
  exact post1 (.inl rfl) rfl rfl ⟨Chg.refl _ _, Own.nil _ _ _, fun g h => by simp [Value.ownBlock] at h⟩
 ·subst hA
  refine go T 7 rfl ?_
  refine o1 rfl ?_
  refine op_buildSlice T rfl rfl rfl rfl rfl rfl rfl (fun g w1 hgs hc1 hg1 => ?_)
  have ho : Own w1 2 1 (.slice (some ⟨g, 0, none⟩) 0 0) 0 [] := Own.mk hg1 (Nat.le_refl _) (Nat.zero_le _) rfl rfl
  have hl' := SliceOf.kept Ri64.kept _ _ _ _ hc1 hl
  refine go T 1 rfl ?_
  refine o1 rfl ?_
  refine op_append T (n := 0) (xs := []) (m := l.length) (news := l.map i64V) rfl rfl rfl rfl rfl rfl rfl rfl ho (by rw [List.length_map, Nat.mul_one]) ?_ (by unfold maxLen; omega) (by show (0 + _) * 8 ≤ _; omega) ?_
  ·intro j u hu
   obtain ⟨x, hx, rfl⟩ : ∃ x, l[j]? = some x ∧ u = i64V x := by
    rw [List.getElem?_map] at hu
    cases hx : l[j]? with
    | none => simp [hx] at hu
    | some x => simp [hx] at hu; exact ⟨x, rfl, hu.symm⟩
   obtain ⟨ad', u', he, hu', h1, _⟩ := hl'.get hx
   subst h1
   exact ⟨⟨ad', he, hu'⟩, rfl⟩
  ·intro v w2 ho2 hc2 hown2 _
   have hgs : w.heap.size ≤ g := hgs
   refine go T 4 rfl ?_
   refine post1 (.inl rfl) rfl rfl ⟨hc1.trans hc2 (fun k hk hlt => by simp [Value.ownBlock] at hk; omega), by simpa using ho2, fun g' hg' => ?_⟩
   have := hc1.size
   rcases hown2 with h | ⟨g2, h, hge⟩
   ·rw [h] at hg'; simp [Value.ownBlock] at hg'; omega
   ·rw [h] at hg'; injection hg' with hg'; omega
theorem cloneInt_has (A : Option Addr) (n c : Nat) (l : List Int) (w : World) (hl : SliceOf Ri64 w (.slice A n c) l) (hb : l.length ≤ 1000000) :
  Has Tryz.prog 72 #[.slice A n c] w (fun v w' => Chg [] w w' ∧ Own w' 3 1 v l.length (l.map i64V) ∧ ∀ g, v.ownBlock = some g → w.heap.size ≤ g) := by
 obtain ⟨rfl, hl1, hl2⟩ := hl.len
 refine enter Tryz.func72 rfl rfl (by decide) rfl (e := [(0, .slice A l.length c)]) ⟨rfl, trivial⟩ ?_
 refine run ?_
 refine go T 9 rfl ?_
 refine o1 rfl ?_
 refine op_eql_nil T rfl rfl rfl rfl (fun hA => ?_) (fun ad hA => ?_)
 ·have hl0 : l = [] := by
   cases l with
   | nil => rfl
   | cons c l => obtain ⟨ad, u, he, _⟩ := hl.get (i := 0) (x := c) rfl; rw [hA] at he; cases he
  subst hl0
  refine go T 10 rfl ?_
  exact post1 (.inl rfl) rfl rfl ⟨Chg.refl _ _, Own.nil _ _ _, fun g h => by simp [Value.ownBlock] at h⟩
 ·subst hA
  refine go T 7 rfl ?_
  refine o1 rfl ?_
  refine op_buildSlice T rfl rfl rfl rfl rfl rfl rfl (fun g w1 hgs hc1 hg1 => ?_)
  have ho : Own w1 3 1 (.slice (some ⟨g, 0, none⟩) 0 0) 0 [] := Own.mk hg1 (Nat.le_refl _) (Nat.zero_le _) rfl rfl
  have hl' := SliceOf.kept Ri64.kept _ _ _ _ hc1 hl
  refine go T 1 rfl ?_
  refine o1 rfl ?_
  refine op_append T (n := 0) (xs := []) (m := l.length) (news := l.map i64V) rfl rfl rfl rfl rfl rfl rfl rfl ho (by rw [List.length_map, Nat.mul_one]) ?_ (by unfold maxLen; omega) (by show (0 + _) * 8 ≤ _; omega) ?_
  ·intro j u hu
   obtain ⟨x, hx, rfl⟩ : ∃ x, l[j]? = some x ∧ u = i64V x := by
    rw [List.getElem?_map] at hu
    cases hx : l[j]? with
    | none => simp [hx] at hu
    | some x => simp [hx] at hu; exact ⟨x, rfl, hu.symm⟩
   obtain ⟨ad', u', he, hu', h1, _⟩ := hl'.get hx
   subst h1
   exact ⟨⟨ad', he, hu'⟩, rfl⟩
  ·intro v w2 ho2 hc2 hown2 _
   have hgs : w.heap.size ≤ g := hgs
   refine go T 4 rfl ?_
   refine post1 (.inl rfl) rfl rfl ⟨hc1.trans hc2 (fun k hk hlt => by simp [Value.ownBlock] at hk; omega), by simpa using ho2, fun g' hg' => ?_⟩
   have := hc1.size
   rcases hown2 with h | ⟨g2, h, hge⟩
   ·rw [h] at hg'; simp [Value.ownBlock] at hg'; omega
   ·rw [h] at hg'; injection hg' with hg'; omega
theorem prd_own {w : World} {q : ParV} (h : PRd w q) : (∀ n ∈ q.p.nums, I64 n) ∧ ∀ n ∈ q.p.sizes, I64 n := by
 obtain ⟨h1, h2⟩ := h
 refine ⟨fun n hn => ?_, fun n hn => ?_⟩
 ·obtain ⟨A, c, he, _, _⟩ := h1.form
  rw [he] at h1
  obtain ⟨i, hi⟩ := List.getElem?_of_mem hn
  obtain ⟨_, _, _, _, _, h3⟩ := h1.get hi
  exact h3
 ·obtain ⟨A, c, he, _, _⟩ := h2.form
  rw [he] at h2
  obtain ⟨i, hi⟩ := List.getElem?_of_mem hn
  obtain ⟨_, _, _, _, _, h3⟩ := h2.get hi
  exact h3
set_option maxHeartbeats 4000000 in
theorem parsM_has {w : World} {gm g : Nat} {vs vp : Value} {nx sq : Int} {cl : Bool} {Q : List ParS} (hm : ManB w gm g vs vp nx sq cl) (hQ : SliceK 5 (RdL parSL) w vp Q) (hp : ∀ q ∈ Q, PRd w q.1) (hb : Q.length ≤ 1000) (hbn : ∀ q ∈ Q, q.1.p.nums.length ≤ 1000000 ∧ q.1.p.sizes.length ≤ 1000000) :
  Has Tryz.prog 30 #[.pointer (some ⟨gm, 0, none⟩)] w (fun v w' => Chg [] w w' ∧ (∀ h, v.ownBlock = some h → w.heap.size ≤ h) ∧ ∃ X : List ParS, X.map (·.1.p) = Q.map (·.1.p) ∧ Own w' 70 5 v X.length (X.flatMap parSL) ∧ ∀ q ∈ X, POwn w' q.1 ∧ PFr w.heap.size q.1) := by
 unfold ManB at hm
 obtain ⟨Aq, cq, rfl, hq1, hq2⟩ := hQ.form
 refine enter Tryz.func30 rfl rfl (by decide) rfl (e := [(0, .pointer (some ⟨gm, 0, none⟩))]) ⟨rfl, trivial⟩ ?_
 refine run ?_
 refine go T 27 rfl ?_
 refine ldB T hm rfl rfl rfl rfl rfl rfl ?_
 refine go T 5 rfl ?_
 refine W_loop (σ := Nat × Value) (fun t => [(3, t.2), (12, .slice Aq Q.length cq), (13, .int .i64 Q.length), (14, .int .i64 (t.1 : Int))])
  (fun t w' => t.1 ≤ Q.length ∧ Chg [] w w' ∧ (∀ h, t.2.ownBlock = some h → w.heap.size ≤ h) ∧ ∃ X : List ParS, X.map (·.1.p) = (Q.take t.1).map (·.1.p) ∧ Own w' 70 5 t.2 X.length (X.flatMap parSL) ∧ ∀ q ∈ X, POwn w' q.1 ∧ PFr w.heap.size q.1)
  (fun t => Q.length - t.1) (0, .slice none 0 0) ⟨rfl, rfl, rfl, rfl, trivial⟩ ⟨Nat.zero_le _, Chg.refl _ _, fun h hh => by simp [Value.ownBlock] at hh, [], rfl, Own.nil _ _ _, fun q hq => by cases hq⟩ ?_
 rintro ⟨i, v⟩ w1 ⟨hi, hc1, hfr, X, hX, hO, hXo⟩
 dsimp only at hi hfr hX hO ⊢
 refine run ?_
 refine go T 2 rfl ?_
 refine ltS rfl rfl rfl rfl (fun hcmp => ?_) (fun hcmp => ?_)
 ·have hlt : i < Q.length := by omega
  have hx : Q[i]? = some Q[i] := List.getElem?_eq_getElem hlt
  have hqm : Q[i] ∈ Q := List.getElem_mem hlt
  obtain ⟨ad, rfl, he⟩ := (hQ.keepR hc1).at hx
  have hpr := (hp _ hqm).keep0 hc1
  have hbn1 := hbn _ hqm
  have hpi := prd_own hpr
  have htk : (Q.take (i + 1)).map (fun q => q.1.p) = (Q.take i).map (fun q => q.1.p) ++ [Q[i].1.p] := by rw [List.take_add_one, hx, List.map_append]; rfl
  have hXl : X.length = i := by have := congrArg List.length hX; rw [List.length_map, List.length_map, List.length_take] at this; omega
  obtain ⟨q, hq⟩ : ∃ q, q = Q[i] := ⟨_, rfl⟩
  rw [← hq] at he hpr hbn1 hpi htk
  clear hx hqm hq
  obtain ⟨qv, ho1, ho2⟩ := q
  dsimp only at he hpr hbn1 hpi htk
  obtain ⟨hn1, hn2⟩ := hpr
  obtain ⟨⟨gr, Ns, Zs, sz, sm⟩, vn, vz⟩ := qv
  dsimp only at he hn1 hn2 hbn1 hpi htk ho1 ho2
  obtain ⟨An, cn, rfl, _, _⟩ := hn1.form
  obtain ⟨Az, cz, rfl, _, _⟩ := hn2.form
  refine go T 10 rfl ?_
  refine o1 rfl (op_indexK T rfl rfl rfl rfl rfl (by omega) ?_)
  refine o1 rfl (op_loadE T he rfl rfl rfl rfl rfl ?_)
  refine o1 rfl ?_
  refine op_alloc T rfl rfl (fun g5 w2 hs2 hc2 h5 => ?_)
  have hs2 : w1.heap.size ≤ g5 := hs2
  refine op0 rfl rfl ?_
  refine op_store_agg T rfl rfl rfl rfl rfl rfl h5 (by exact Nat.le_of_ble_eq_true rfl) (fun w3 hc3 h5n _ => ?_)
  replace h5 : Blk w3 g5 70 [.int .i64 gr, .slice An Ns.length cn, .slice Az Zs.length cz, .int .i64 sz, .int .u32 (sm : Int)] := h5n
  clear h5n he
  have hc13 : Chg [] w1 w3 := hc2.trans hc3 (fun k hk hlt => by simp at hk; omega)
  have hn1' := SliceOf.kept Ri64.kept _ _ _ _ hc13 hn1
  have hn2' := SliceOf.kept Ri64.kept _ _ _ _ hc13 hn2
  have hz13 := hc13.size
  have hz01 := hc1.size
  refine go T 3 rfl ?_
  refine W_walk 7 [] fol (by kernel_rfl) (by kernel_rfl) ?_
  refine Walk.plain rfl (by intro val w_ hR hp; exact op_fieldAddr T rfl rfl rfl rfl rfl rfl rfl rfl ⟨Chg.refl _ _, rfl⟩) ?_; dsimp only [na1, na2]
  refine Walk.plain rfl (by intro val w_ hR hp; exact op_loadB T rfl rfl rfl rfl (h5.keep0 hR) (by exact rfl) ⟨Chg.refl _ _, rfl⟩) ?_; dsimp only [na1, na2]
  refine Walk.rel (fun v w' => Own w' 2 1 v Ns.length (Ns.map i64V) ∧ ∀ g, v.ownBlock = some g → w1.heap.size ≤ g) rfl (fun v w w' h hab => ⟨h.1.keep0 hab, h.2⟩) (by intro val w_ hR hp; exact op_call rfl rfl rfl (cloneI64_has An _ cn Ns w_ (SliceOf.kept Ri64.kept _ _ _ _ hR hn1') hbn1.1) (fun v w' h => ⟨h.1, h.2.1, fun g hg => by have := h.2.2 g hg; have := hR.size; omega⟩)) ?_; dsimp only [na1, na2]
  refine Walk.plain rfl (by intro val w_ hR hp; exact op_fieldAddr T rfl rfl rfl rfl rfl rfl rfl rfl ⟨Chg.refl _ _, rfl⟩) ?_; dsimp only [na1, na2]
  refine Walk.plain rfl (by intro val w_ hR hp; exact op_loadB T rfl rfl rfl rfl (h5.keep0 hR) (by exact rfl) ⟨Chg.refl _ _, rfl⟩) ?_; dsimp only [na1, na2]
  refine Walk.rel (fun v w' => Own w' 3 1 v Zs.length (Zs.map i64V) ∧ ∀ g, v.ownBlock = some g → w1.heap.size ≤ g) rfl (fun v w w' h hab => ⟨h.1.keep0 hab, h.2⟩) (by intro val w_ hR hp; exact op_call rfl rfl rfl (cloneInt_has Az _ cz Zs w_ (SliceOf.kept Ri64.kept _ _ _ _ hR hn2') hbn1.2) (fun v w' h => ⟨h.1, h.2.1, fun g hg => by have := h.2.2 g hg; have := hR.size; omega⟩)) ?_; dsimp only [na1, na2]
  refine Walk.plain rfl (by intro val w_ hR hp; exact op_fieldAddr T rfl rfl rfl rfl rfl rfl rfl rfl ⟨Chg.refl _ _, rfl⟩) ?_; dsimp only [na1, na2]
  refine Walk.fin ?_
  intro val w4 hc4 hp4
  obtain ⟨hvn, hfn⟩ : Own w4 2 1 (val 2) Ns.length (Ns.map i64V) ∧ ∀ g, (val 2).ownBlock = some g → w1.heap.size ≤ g := hp4 2 (by omega) _ _ rfl rfl
  obtain ⟨hvz, hfz⟩ : Own w4 3 1 (val 5) Zs.length (Zs.map i64V) ∧ ∀ g, (val 5).ownBlock = some g → w1.heap.size ≤ g := hp4 5 (by omega) _ _ rfl rfl
  clear hp4
  have h5l := h5.lt
  replace h5 := h5.keep0 hc4
  have hc14 := hc13.trans' hc4
  have hO4 := hO.keep0 hc14
  have hXo4 : ∀ q ∈ X, POwn w4 q.1 ∧ PFr w.heap.size q.1 := fun q hq => ⟨(hXo q hq).1.keep0 hc14, (hXo q hq).2⟩
  have hOl := fun h (hh : v.ownBlock = some h) => hO.lt hh
  obtain ⟨Bn, dn, hv2, _, _⟩ := hvn.form
  obtain ⟨Bz, dz, hv5, _, _⟩ := hvz.form
  rw [hv2] at hvn hfn
  rw [hv5] at hvz hfz
  have hnn : ∀ k, (Value.slice Bn Ns.length dn).ownBlock = some k → k ≠ g5 := fun k hk e => out_of h5 hvn (by decide) (by rw [← e, hk]; simp)
  have hnz : ∀ k, (Value.slice Bz Zs.length dz).ownBlock = some k → k ≠ g5 := fun k hk e => out_of h5 hvz (by decide) (by rw [← e, hk]; simp)
  have hXn : ∀ q ∈ X, (∀ b, q.1.vn.ownBlock = some b → b < w1.heap.size) ∧ ∀ b, q.1.vs.ownBlock = some b → b < w1.heap.size := fun q hq => ⟨fun b hb => (hXo q hq).1.nums.lt hb, fun b hb => (hXo q hq).1.sizes.lt hb⟩
  clear hc13 hn1 hn2 hn1' hn2' hc2 hc3 hO hXo
  refine WL_sub (e' := [(3, v), (5, .pointer (some ⟨g5, 0, none⟩)), (12, .slice (some ad) Q.length cq), (13, .int .i64 Q.length), (14, .int .i64 (i : Int)), (20, .slice Bn Ns.length dn), (23, .slice Bz Zs.length dz), (24, .pointer (some ⟨g5, 1, none⟩))]) ⟨rfl, rfl, rfl, rfl, rfl, congrArg some hv2, congrArg some hv5, rfl, trivial⟩ ?_
  refine runL ?_
  refine op0 rfl rfl ?_
  refine op_store T rfl rfl rfl rfl rfl rfl h5 (by simp) (fun w5 hc5 h5n _ => ?_)
  replace h5 : Blk w5 g5 70 [.int .i64 gr, .slice Bn Ns.length dn, .slice Az Zs.length cz, .int .i64 sz, .int .u32 (sm : Int)] := h5n
  clear h5n
  refine go T 1 rfl ?_
  refine op0 rfl rfl ?_
  refine op_store T rfl rfl rfl rfl rfl rfl h5 (by simp) (fun w6 hc6 h6 _ => ?_)
  replace h6 : Blk w6 g5 70 [.int .i64 gr, .slice Bn Ns.length dn, .slice Bz Zs.length dz, .int .i64 sz, .int .u32 (sm : Int)] := h6
  clear h5
  have hc46 : Chg [g5] w4 w6 := hc5.trans hc6 (fun k hk _ => hk)
  have hvn6 := hvn.keep hc46 (fun k hk hm => hnn k hk (by simpa using hm))
  have hvz6 := hvz.keep hc46 (fun k hk hm => hnz k hk (by simpa using hm))
  have hO6 := hO4.keep hc46 (fun k hk hm => by have := hOl k hk; simp at hm; omega)
  have hXo6 : ∀ q ∈ X, POwn w6 q.1 ∧ PFr w.heap.size q.1 := fun q hq => ⟨(hXo4 q hq).1.keep hc46 (fun b hb hm => by have := (hXn q hq).1 b hb; simp at hm; omega) (fun b hb hm => by have := (hXn q hq).2 b hb; simp at hm; omega), (hXo4 q hq).2⟩
  have hc06 : Chg [] w w6 := (hc1.trans' hc14).trans hc46 (fun k hk hlt => by simp at hk; omega)
  obtain ⟨y, hy⟩ : ∃ y : ParS, y = ⟨⟨⟨gr, Ns, Zs, sz, sm⟩, .slice Bn Ns.length dn, .slice Bz Zs.length dz⟩, rfl, rfl⟩ := ⟨_, rfl⟩
  have hyO : POwn w6 y.1 := by rw [hy]; exact ⟨hvn6, hvz6, hpi.1, hpi.2⟩
  have hyF : PFr w1.heap.size y.1 := by rw [hy]; exact ⟨hfn, hfz⟩
  have hyp : y.1.p = ⟨gr, Ns, Zs, sz, sm⟩ := by rw [hy]
  have h6 : Blk w6 g5 70 (parSL y) := by rw [hy]; exact h6
  clear hc5 hc6 hO4 hXo4 hvn hvz
  refine go T 4 rfl ?_
  refine o1 rfl (op_load_agg T rfl rfl rfl rfl h6 (by exact Nat.le_of_ble_eq_true rfl) (by exact rfl) ?_)
  refine o1 rfl ?_
  refine op_buildSlice T rfl rfl rfl rfl rfl rfl rfl (fun gb w7 hs7 hc7 h7 => ?_)
  have h7 : Blk w7 gb 70 (parSL y) := h7
  have hs7 : w6.heap.size ≤ gb := hs7
  have hO7 := hO6.keep0 hc7
  have hz06 := hc06.size
  have hz07 := hc7.size
  refine o1 rfl ?_
  refine op_appendK T parS_len rfl rfl rfl rfl rfl rfl rfl rfl rfl rfl hO7 h7 (parS_one _) (by omega) (fun v' w8 hO8 hc8 hb8 => ?_)
  have hc08 : Chg [] w w8 := (hc06.trans' hc7).trans hc8 (fun k hk hlt => by have := hfr k (by simpa using hk); omega)
  refine go T 5 rfl ?_
  refine adI rfl rfl rfl rfl (by omega) (by omega) ?_
  refine go T 2 rfl ?_
  refine Round_n (i + 1, v') ⟨rfl, rfl, rfl, rfl, trivial⟩ ⟨by dsimp only; omega, hc08, fun h hh => ?_, X ++ [y], ?_, hO8, fun q hq => ?_⟩ (by dsimp only; omega)
  ·rcases hb8 with h1 | ⟨k, h1, h2⟩
   ·exact hfr h (by rw [← h1]; exact hh)
   ·dsimp only at hh; rw [h1] at hh; injection hh with hh; omega
  ·dsimp only; rw [List.map_append, hX, htk]; simp [hyp]
  ·rcases List.mem_append.1 hq with hq | hq
   ·have h9 : POwn w7 q.1 := (hXo6 q hq).1.keep0 hc7
    exact ⟨h9.keep hc8 (out_own h9.nums hO7 (by decide)) (out_own h9.sizes hO7 (by decide)), (hXo6 q hq).2⟩
   ·obtain rfl := List.mem_singleton.1 hq
    have h9 : POwn w7 q.1 := hyO.keep0 hc7
    exact ⟨h9.keep hc8 (out_own h9.nums hO7 (by decide)) (out_own h9.sizes hO7 (by decide)), fun b hb => by have := hyF.1 b hb; omega, fun b hb => by have := hyF.2 b hb; omega⟩
 ·obtain rfl : i = Q.length := by omega
  rw [List.take_length] at hX
  refine go T 6 rfl ?_
  refine rndX ?_
  refine go T 9 rfl ?_
  exact post1 (.inl rfl) rfl rfl ⟨hc1, hfr, X, hX, hO, hXo⟩
theorem parsO_has {w0 w : World} {gm g : Nat} {s : FsM} {p : FsP} {st : StM} {cl : Bool} (x : ManO w0 w gm g s p st cl) (hb : st.pars.length ≤ 1000) (hbn : ∀ q ∈ st.pars, q.1.p.nums.length ≤ 1000000 ∧ q.1.p.sizes.length ≤ 1000000) :
  Has Tryz.prog 30 #[.pointer (some ⟨gm, 0, none⟩)] w (fun v w' => Chg [] w w' ∧ (∀ h, v.ownBlock = some h → w.heap.size ≤ h) ∧ ∃ X : List ParS, X.map (·.1.p) = st.plain.pars ∧ Own w' 70 5 v X.length (X.flatMap parSL) ∧ ∀ q ∈ X, POwn w' q.1 ∧ PFr w.heap.size q.1) := by
 obtain ⟨vs, vp, hm, hst⟩ := x.rows
 exact parsM_has hm hst.now.pars hst.now.prd hb hbn
end Go.Proofs.YtiadjkjlifnopaaGreatDoor.Tryz
/-! Scrub: Look. -/
namespace Go.Vc
open Go
def lookS (s : FsM) (L : List SegM) : List Int := (L.filter fun y => y.sealed && !readOk s (fileNm y) y.size y.sum).map (·.num)
def lookP (s : FsM) (Q : List ParM) : List Int := (Q.filter fun q => !readOk s (parNm q) q.size q.sum).map (·.group)
theorem lookS_snoc (s : FsM) {L : List SegM} {i : Nat} {y : SegM} (h : L[i]? = some y) : lookS s (L.take (i + 1)) = lookS s (L.take i) ++ (if (y.sealed && !readOk s (fileNm y) y.size y.sum) = true then [y.num] else []) := by
 unfold lookS
 rw [List.take_add_one, h, List.filter_append, List.map_append]
 congr 1
 show List.map _ (List.filter _ [y]) = _
 rw [List.filter_cons, List.filter_nil]
 split <;> rfl
theorem lookP_snoc (s : FsM) {L : List ParM} {i : Nat} {y : ParM} (h : L[i]? = some y) : lookP s (L.take (i + 1)) = lookP s (L.take i) ++ (if (!readOk s (parNm y) y.size y.sum) = true then [y.group] else []) := by
 unfold lookP
 rw [List.take_add_one, h, List.filter_append, List.map_append]
 congr 1
 show List.map _ (List.filter _ [y]) = _
 rw [List.filter_cons, List.filter_nil]
 split <;> rfl
theorem lookS_len (s : FsM) (L : List SegM) : (lookS s L).length ≤ L.length := by unfold lookS; rw [List.length_map]; exact List.length_filter_le _ _
theorem lookP_len (s : FsM) (L : List ParM) : (lookP s L).length ≤ L.length := by unfold lookP; rw [List.length_map]; exact List.length_filter_le _ _
end Go.Vc
namespace Go.Proofs.YtiadjkjlifnopaaGreatDoor.Tryz
open Go Go.Vc
set_option maxHeartbeats 8000000 in
theorem look_has {w0 w : World} {gm g : Nat} {s : FsM} {p : FsP} {st : StM} (x : ManO w0 w gm g s p st false) (hok : POk st.plain) (hnx : st.next ≤ 100) (hb : ∀ nm b, readM s nm = some b → b.length ≤ 4194304) (hpn : ∀ q ∈ st.pars, q.1.p.nums.length ≤ 1000000 ∧ q.1.p.sizes.length ≤ 1000000) :
  Has Tryz.prog 15 #[ptrV g, .pointer (some ⟨gm, 0, none⟩)] w (fun v w' => Chg [] w w' ∧ ∃ us up, v = .tuple #[us, up] ∧ Own w' 2 1 us (lookS s st.segs).length ((lookS s st.segs).map i64V) ∧ Own w' 2 1 up (lookP s st.plain.pars).length ((lookP s st.plain.pars).map i64V) ∧ (∀ h, us.ownBlock = some h → w.heap.size ≤ h) ∧ ∀ h, up.ownBlock = some h → w.heap.size ≤ h) := by
 obtain ⟨_, _, hk3, hk4⟩ := plain_keys hok
 have hseg : ∀ y ∈ st.segs, 0 ≤ y.num ∧ y.num < 100 := fun y hy => by
  have h1 := (hok.segs y hy).1.num
  have h2 := hok.below y hy
  have h3 : st.plain.next = st.next := rfl
  omega
 have hpar : ∀ q ∈ st.plain.pars, 0 ≤ q.group ∧ q.group < 100 := fun q hq => by
  have h1 := (hok.pars _ hq).1.group
  have h2 := hok.belowP _ hq
  have h3 : st.plain.next = st.next := rfl
  omega
 refine enter Tryz.func15 rfl rfl (by decide) rfl (e := [(0, ptrV g), (1, .pointer (some ⟨gm, 0, none⟩))]) ⟨rfl, rfl, trivial⟩ ?_
 unfold ptrV
 refine run ?_
 refine go T 16 rfl ?_
 refine o1 rfl ?_
 refine op_call rfl rfl rfl (segsO_has x (by omega)) ?_
 rintro va w1 ⟨hc1, hO1, hf1⟩
 have hS1 := hO1.readsK segL_len
 obtain ⟨A, c, rfl, hl1, hl2⟩ := hS1.form
 have x1 := x.keep0 hc1
 have hz1 := hc1.size
 refine go T 5 rfl ?_
 refine W_loop (σ := Nat × Value) (fun t => [(0, .pointer (some ⟨g, 0, none⟩)), (1, .pointer (some ⟨gm, 0, none⟩)), (6, t.2), (7, .slice none 0 0), (17, .slice A st.segs.length c), (18, .int .i64 st.segs.length), (19, .int .i64 (t.1 : Int))])
  (fun t w' => t.1 ≤ st.segs.length ∧ Chg [] w1 w' ∧ (∀ h, t.2.ownBlock = some h → w1.heap.size ≤ h) ∧ Own w' 2 1 t.2 (lookS s (st.segs.take t.1)).length ((lookS s (st.segs.take t.1)).map i64V))
  (fun t => st.segs.length - t.1) (0, .slice none 0 0) ⟨rfl, rfl, rfl, rfl, rfl, rfl, rfl, trivial⟩ ⟨Nat.zero_le _, Chg.refl _ _, fun h hh => by simp [Value.ownBlock] at hh, Own.nil _ _ _⟩ ?_
 rintro ⟨i, us⟩ w2 ⟨hi, hc2, hfu, hO2⟩
 dsimp only at hi hfu hO2 ⊢
 have hul : (lookS s (st.segs.take i)).length ≤ 1000 := by have := lookS_len s (st.segs.take i); rw [List.length_take] at this; omega
 refine run ?_
 refine go T 2 rfl ?_
 refine ltS rfl rfl rfl rfl (fun hcmp => ?_) (fun hcmp => ?_)
 ·have hlt : i < st.segs.length := by omega
  have hx : st.segs[i]? = some st.segs[i] := List.getElem?_eq_getElem hlt
  have hym : st.segs[i] ∈ st.segs := List.getElem_mem hlt
  obtain ⟨ad, rfl, he⟩ := (hS1.keepR hc2).at hx
  have htk := lookS_snoc s hx
  have hL2 := hseg _ hym
  generalize lookS s (st.segs.take i) = U at *
  generalize st.segs[i] = y at *
  clear hx hym
  refine go T 10 rfl ?_
  refine o1 rfl (op_indexK T rfl rfl rfl rfl rfl (by omega) ?_)
  refine o1 rfl (op_loadE T he rfl rfl rfl rfl rfl ?_)
  refine o1 rfl ?_
  refine op_alloc T rfl rfl (fun g9 w3 hs3 hc3 h9 => ?_)
  have hs3 : w2.heap.size ≤ g9 := hs3
  refine op0 rfl rfl ?_
  refine op_store_agg T rfl rfl rfl rfl rfl rfl h9 (by exact Nat.le_of_ble_eq_true rfl) (fun w5 hc4 h9n _ => ?_)
  replace h9 : Blk w5 g9 26 (segL y) := h9n
  clear h9n he
  have hc25 : Chg [] w2 w5 := hc3.trans hc4 (fun k hk hlt => by simp at hk; omega)
  have hc15 := hc2.trans' hc25
  have x5 := x1.keep0 hc15
  have hO5 := hO2.keep0 hc25
  have h9' := h9
  unfold segL at h9'
  have hz5 := hc15.size
  obtain ⟨nm, hnm⟩ : ∃ nm, nm = fileNm y := ⟨_, rfl⟩
  rw [← hnm] at htk
  generalize hok : readOk s nm y.size y.sum = ok at *
  refine go T 3 rfl ?_
  refine W_walk 12 [] fol (by kernel_rfl) (by kernel_rfl) ?_
  refine Walk.plain rfl (by intro val w_ hR hp; exact op_move rfl rfl ⟨Chg.refl _ _, rfl⟩) ?_; dsimp only [na1, na2]
  refine Walk.plain rfl (by intro val w_ hR hp; exact op_load_agg T rfl rfl rfl rfl (h9'.keep0 hR) (by exact Nat.le_of_ble_eq_true rfl) (by exact rfl) ⟨Chg.refl _ _, rfl⟩) ?_; dsimp only [na1, na2]
  refine Walk.plain (v := .string (str nm)) rfl (by intro val w_ hR hp; exact op_call rfl rfl rfl (file_has y w_ hL2.1 hL2.2) (fun v w' h => by rw [hnm]; exact h)) ?_; dsimp only [na1, na2]
  refine Walk.plain rfl (by intro val w_ hR hp; exact op_fieldAddr T rfl rfl rfl rfl rfl rfl rfl rfl ⟨Chg.refl _ _, rfl⟩) ?_; dsimp only [na1, na2]
  refine Walk.plain rfl (by intro val w_ hR hp; exact op_loadB T rfl rfl rfl rfl (h9'.keep0 hR) (by exact rfl) ⟨Chg.refl _ _, rfl⟩) ?_; dsimp only [na1, na2]
  refine Walk.plain rfl (by intro val w_ hR hp; exact op_fieldAddr T rfl rfl rfl rfl rfl rfl rfl rfl ⟨Chg.refl _ _, rfl⟩) ?_; dsimp only [na1, na2]
  refine Walk.plain rfl (by intro val w_ hR hp; exact op_loadB T rfl rfl rfl rfl (h9'.keep0 hR) (by exact rfl) ⟨Chg.refl _ _, rfl⟩) ?_; dsimp only [na1, na2]
  refine Walk.rel (fun v w' => ∃ u, v = .tuple #[u, .bool ok]) rfl (fun v w w' h hab => h) (by intro val w_ hR hp; exact op_call rfl rfl rfl (readS_has (x5.fs.at_.keep0 hR) nm y.size y.sum (hb nm)) (fun v w' h => let ⟨h0, u, h1, h2, h3⟩ := h; ⟨h0, u, by rw [← hok]; exact h1⟩)) ?_; dsimp only [na1, na2]
  refine Walk.rel (fun v w' => ∃ u, v = .tuple #[u, .bool ok]) rfl (fun v w w' h hab => h) (by intro val w_ hR hp; exact op_move rfl rfl ⟨Chg.refl _ _, hp 7 rfl _ _ rfl rfl⟩) ?_; dsimp only [na1, na2]
  refine Walk.rel (fun v w' => True) rfl (fun v w w' h hab => trivial) (by intro val w_ hR hp; exact (by obtain ⟨u, h1⟩ := hp 8 rfl _ _ rfl rfl; have h1 : val 8 = _ := h1; exact op_extract rfl (show some (val 8) = _ by rw [h1]) rfl ⟨Chg.refl _ _, trivial⟩)) ?_; dsimp only [na1, na2]
  refine Walk.plain (v := .bool ok) rfl (by intro val w_ hR hp; exact (by obtain ⟨u, h1⟩ := hp 8 rfl _ _ rfl rfl; have h1 : val 8 = _ := h1; exact op_extract rfl (show some (val 8) = _ by rw [h1]) rfl ⟨Chg.refl _ _, rfl⟩)) ?_; dsimp only [na1, na2]
  refine Walk.rel (fun v w' => True) rfl (fun v w w' h hab => trivial) (by intro val w_ hR hp; exact op_assign rfl rfl ⟨Chg.refl _ _, trivial⟩) ?_; dsimp only [na1, na2]
  refine Walk.fin ?_
  intro val w6 hc6 hp
  clear hp
  refine WL_sub (e' := [(0, .pointer (some ⟨g, 0, none⟩)), (1, .pointer (some ⟨gm, 0, none⟩)), (6, us), (7, .slice none 0 0), (9, .pointer (some ⟨g9, 0, none⟩)), (17, .slice (some ad) st.segs.length c), (18, .int .i64 st.segs.length), (19, .int .i64 (i : Int)), (33, .bool ok)]) ⟨rfl, rfl, rfl, rfl, rfl, rfl, rfl, rfl, rfl, trivial⟩ ?_
  have h96 := h9'.keep0 hc6
  have hO6 := hO5.keep0 hc6
  have hc16 := hc15.trans' hc6
  have hz6 := hc16.size
  clear h9 h9' hc25 hc15 hO5 hO2 hc3 hc4 x5
  generalize hsl : y.sealed = sl at *
  by_cases hcd : sl = true ∧ ok = false
  ·obtain ⟨rfl, rfl⟩ := hcd
   rw [show (if (true && !false) = true then [y.num] else ([] : List Int)) = [y.num] from rfl] at htk
   refine runL ?_
   refine go T 6 rfl ?_
   refine ldB T h96 rfl rfl rfl rfl rfl rfl ?_
   refine go T 10 rfl ?_
   refine ldB T h96 rfl rfl rfl rfl rfl rfl ?_
   refine o1 rfl ?_
   refine op_buildSlice T rfl rfl rfl rfl rfl rfl rfl (fun gb w7 hs7 hc7 h7 => ?_)
   have h7 : Blk w7 gb 2 [i64V y.num] := h7
   have hO7 := hO6.keep0 hc7
   have hz7 := hc7.size
   refine o1 rfl ?_
   refine op_append1 T (f := i64V) rfl rfl rfl rfl rfl rfl rfl rfl rfl hO7 h7 rfl (by omega) (fun u' w8 hO8 hc8 hb8 => ?_)
   have hc18 : Chg [] w1 w8 := (hc16.trans' hc7).trans hc8 (fun k hk hlt => by have := hfu k (by simpa using hk); omega)
   refine go T 5 rfl ?_
   refine adI rfl rfl rfl rfl (by omega) (by omega) ?_
   refine go T 2 rfl ?_
   refine Round_n (i + 1, u') ⟨rfl, rfl, rfl, rfl, rfl, rfl, rfl, trivial⟩ ⟨by dsimp only; omega, hc18, fun h hh => ?_, by dsimp only; rw [htk]; exact hO8⟩ (by dsimp only; omega)
   rcases hb8 with h1 | ⟨k, h1, h2⟩
   ·exact hfu h (by rw [← h1]; exact hh)
   ·dsimp only at hh; rw [h1] at hh; injection hh with hh; omega
  ·have hpn' : (if (sl && !ok) = true then [y.num] else ([] : List Int)) = [] := by
    rw [if_neg]
    cases sl <;> cases ok <;> simp_all
   rw [hpn', List.append_nil] at htk
   cases sl with
   | false =>
    refine runL ?_
    refine go T 6 rfl ?_
    refine ldB T h96 rfl rfl rfl rfl rfl rfl ?_
    refine go T 11 rfl ?_
    refine adI rfl rfl rfl rfl (by omega) (by omega) ?_
    refine go T 2 rfl ?_
    exact Round_n (i + 1, us) ⟨rfl, rfl, rfl, rfl, rfl, rfl, rfl, trivial⟩ ⟨by dsimp only; omega, hc16, hfu, by dsimp only; rw [htk]; exact hO6⟩ (by dsimp only; omega)
   | true =>
    obtain rfl : ok = true := by cases ok <;> simp_all
    refine runL ?_
    refine go T 6 rfl ?_
    refine ldB T h96 rfl rfl rfl rfl rfl rfl ?_
    refine go T 11 rfl ?_
    refine adI rfl rfl rfl rfl (by omega) (by omega) ?_
    refine go T 2 rfl ?_
    exact Round_n (i + 1, us) ⟨rfl, rfl, rfl, rfl, rfl, rfl, rfl, trivial⟩ ⟨by dsimp only; omega, hc16, hfu, by dsimp only; rw [htk]; exact hO6⟩ (by dsimp only; omega)
 ·obtain rfl : i = st.segs.length := by omega
  rw [List.take_length] at hO2
  have x2 := x1.keep0 hc2
  have hO1' := hO2
  generalize lookS s st.segs = U at *
  clear hO2 hul hS1 hO1 hseg
  refine go T 6 rfl ?_
  refine rndX ?_
  refine go T 6 rfl ?_
  refine o1 rfl ?_
  refine op_call rfl rfl rfl (parsO_has x2 (by omega) hpn) ?_
  rintro vb w3 ⟨hc3, hf3, X, hX, hO3, hXo⟩
  have hU3 := hO1'.keep0 hc3
  have x3 := x2.keep0 hc3
  have hc13 := hc2.trans' hc3
  have hz3 := hc13.size
  have hz23 := hc3.size
  have hXl : X.length ≤ 60 := by
   have h1 := congrArg List.length hX
   rw [List.length_map] at h1
   have h2 : st.plain.pars.length = st.pars.length := List.length_map _
   omega
  have hXpar : ∀ q ∈ X, 0 ≤ q.1.p.group ∧ q.1.p.group < 100 := fun q hq => hpar _ (by rw [← hX]; exact List.mem_map.2 ⟨q, hq, rfl⟩)
  have hlast : lookP s st.plain.pars = lookP s (X.map (·.1.p)) := by rw [hX]
  rw [hlast]
  clear hX hpar hlast
  have hul : ∀ h, us.ownBlock = some h → h < w3.heap.size := fun h hh => hU3.lt hh
  have hQ3 := hO3.readsK parS_len
  obtain ⟨B, d, rfl, hq1, hq2⟩ := hQ3.form
  clear hc2 hO1' x2
  refine go T 5 rfl ?_
  refine W_loop (σ := Nat × Value) (fun t => [(0, .pointer (some ⟨g, 0, none⟩)), (6, us), (7, t.2), (47, .slice B X.length d), (48, .int .i64 X.length), (49, .int .i64 (t.1 : Int))])
   (fun t w' => t.1 ≤ X.length ∧ Chg [] w3 w' ∧ (∀ h, t.2.ownBlock = some h → w3.heap.size ≤ h) ∧ Own w' 2 1 t.2 (lookP s ((X.map (·.1.p)).take t.1)).length ((lookP s ((X.map (·.1.p)).take t.1)).map i64V))
   (fun t => X.length - t.1) (0, .slice none 0 0) ⟨rfl, rfl, rfl, rfl, rfl, rfl, trivial⟩ ⟨Nat.zero_le _, Chg.refl _ _, fun h hh => by simp [Value.ownBlock] at hh, Own.nil _ _ _⟩ ?_
  rintro ⟨i, up⟩ w4 ⟨hi, hc4, hfp, hO4⟩
  dsimp only at hi hfp hO4 ⊢
  have hpl : (lookP s ((X.map (·.1.p)).take i)).length ≤ 1000 := by have := lookP_len s ((X.map (·.1.p)).take i); rw [List.length_take, List.length_map] at this; omega
  refine run ?_
  refine go T 2 rfl ?_
  refine ltS rfl rfl rfl rfl (fun hcmp => ?_) (fun hcmp => ?_)
  ·have hlt : i < X.length := by omega
   have hx : X[i]? = some X[i] := List.getElem?_eq_getElem hlt
   have hym : X[i] ∈ X := List.getElem_mem hlt
   obtain ⟨ad, rfl, he⟩ := (hQ3.keepR hc4).at hx
   have htk := lookP_snoc s (L := X.map (·.1.p)) (i := i) (y := X[i].1.p) (by rw [List.getElem?_map, hx]; rfl)
   have hL2 := hXpar _ hym
   generalize lookP s ((X.map (·.1.p)).take i) = W at *
   obtain ⟨q, hq⟩ : ∃ q, q = X[i] := ⟨_, rfl⟩
   rw [← hq] at he htk hL2
   clear hx hym hq
   obtain ⟨⟨⟨gr, Ns, Zs, sz, sm⟩, vn, vz⟩, ho1, ho2⟩ := q
   dsimp only at he htk hL2 ho1 ho2
   obtain ⟨num, rfl⟩ := Int.eq_ofNat_of_zero_le hL2.1
   have hn100 : num < 100 := by omega
   have hall : ([Value.int .i64 ((num : Nat) : Int), vn, vz, .int .i64 sz, .int .u32 (sm : Int)].all (·.oneCell')) = true := by
    simp only [List.all_cons, List.all_nil, ho1, ho2]; rfl
   refine go T 10 rfl ?_
   refine o1 rfl (op_indexK T rfl rfl rfl rfl rfl (by omega) ?_)
   refine o1 rfl (op_loadE T he rfl rfl rfl rfl rfl ?_)
   refine o1 rfl ?_
   refine op_alloc T rfl rfl (fun g9 w5 hs5 hc5 h9 => ?_)
   have hs5 : w4.heap.size ≤ g9 := hs5
   refine op0 rfl rfl ?_
   refine op_store_agg T rfl rfl rfl rfl rfl hall h9 (by exact Nat.le_of_ble_eq_true rfl) (fun w6 hc6 h9n _ => ?_)
   replace h9 : Blk w6 g9 70 [.int .i64 ((num : Nat) : Int), vn, vz, .int .i64 sz, .int .u32 (sm : Int)] := h9n
   clear h9n he hall
   have hc46 : Chg [] w4 w6 := hc5.trans hc6 (fun k hk hlt => by simp at hk; omega)
   have hc36 := hc4.trans' hc46
   have x6 := x3.keep0 hc36
   have hO6 := hO4.keep0 hc46
   have hz6 := hc36.size
   obtain ⟨nm, hnm⟩ : ∃ nm, nm = dig2 num ++ endPar := ⟨_, rfl⟩
   have hnm' : parNm ⟨((num : Nat) : Int), Ns, Zs, sz, sm⟩ = nm := by rw [hnm]; rfl
   rw [hnm'] at htk
   generalize hok : readOk s nm sz sm = ok at *
   refine go T 3 rfl ?_
   refine W_walk 13 [] fol (by kernel_rfl) (by kernel_rfl) ?_
   refine Walk.plain rfl (by intro val w_ hR hp; exact op_move rfl rfl ⟨Chg.refl _ _, rfl⟩) ?_; dsimp only [na1, na2]
   refine Walk.plain rfl (by intro val w_ hR hp; exact op_fieldAddr T rfl rfl rfl rfl rfl rfl rfl rfl ⟨Chg.refl _ _, rfl⟩) ?_; dsimp only [na1, na2]
   refine Walk.plain rfl (by intro val w_ hR hp; exact op_loadB T rfl rfl rfl rfl (h9.keep0 hR) (by exact rfl) ⟨Chg.refl _ _, rfl⟩) ?_; dsimp only [na1, na2]
   refine Walk.plain (v := .string (str nm)) rfl (by intro val w_ hR hp; exact op_call rfl rfl rfl (parName2_has num w_ hn100) (fun v w' h => by rw [hnm, h.1]; exact ⟨Chg.refl _ _, h.2⟩)) ?_; dsimp only [na1, na2]
   refine Walk.plain rfl (by intro val w_ hR hp; exact op_fieldAddr T rfl rfl rfl rfl rfl rfl rfl rfl ⟨Chg.refl _ _, rfl⟩) ?_; dsimp only [na1, na2]
   refine Walk.plain rfl (by intro val w_ hR hp; exact op_loadB T rfl rfl rfl rfl (h9.keep0 hR) (by exact rfl) ⟨Chg.refl _ _, rfl⟩) ?_; dsimp only [na1, na2]
   refine Walk.plain rfl (by intro val w_ hR hp; exact op_fieldAddr T rfl rfl rfl rfl rfl rfl rfl rfl ⟨Chg.refl _ _, rfl⟩) ?_; dsimp only [na1, na2]
   refine Walk.plain rfl (by intro val w_ hR hp; exact op_loadB T rfl rfl rfl rfl (h9.keep0 hR) (by exact rfl) ⟨Chg.refl _ _, rfl⟩) ?_; dsimp only [na1, na2]
   refine Walk.rel (fun v w' => ∃ u, v = .tuple #[u, .bool ok]) rfl (fun v w w' h hab => h) (by intro val w_ hR hp; exact op_call rfl rfl rfl (readS_has (x6.fs.at_.keep0 hR) nm sz sm (hb nm)) (fun v w' h => let ⟨h0, u, h1, h2, h3⟩ := h; ⟨h0, u, by rw [← hok]; exact h1⟩)) ?_; dsimp only [na1, na2]
   refine Walk.rel (fun v w' => ∃ u, v = .tuple #[u, .bool ok]) rfl (fun v w w' h hab => h) (by intro val w_ hR hp; exact op_move rfl rfl ⟨Chg.refl _ _, hp 8 rfl _ _ rfl rfl⟩) ?_; dsimp only [na1, na2]
   refine Walk.rel (fun v w' => True) rfl (fun v w w' h hab => trivial) (by intro val w_ hR hp; exact (by obtain ⟨u, h1⟩ := hp 9 rfl _ _ rfl rfl; have h1 : val 9 = _ := h1; exact op_extract rfl (show some (val 9) = _ by rw [h1]) rfl ⟨Chg.refl _ _, trivial⟩)) ?_; dsimp only [na1, na2]
   refine Walk.plain (v := .bool ok) rfl (by intro val w_ hR hp; exact (by obtain ⟨u, h1⟩ := hp 9 rfl _ _ rfl rfl; have h1 : val 9 = _ := h1; exact op_extract rfl (show some (val 9) = _ by rw [h1]) rfl ⟨Chg.refl _ _, rfl⟩)) ?_; dsimp only [na1, na2]
   refine Walk.rel (fun v w' => True) rfl (fun v w w' h hab => trivial) (by intro val w_ hR hp; exact op_assign rfl rfl ⟨Chg.refl _ _, trivial⟩) ?_; dsimp only [na1, na2]
   refine Walk.fin ?_
   intro val w7 hc7 hp
   clear hp
   refine WL_sub (e' := [(0, .pointer (some ⟨g, 0, none⟩)), (6, us), (7, up), (13, .pointer (some ⟨g9, 0, none⟩)), (47, .slice (some ad) X.length d), (48, .int .i64 X.length), (49, .int .i64 (i : Int)), (64, .bool ok)]) ⟨rfl, rfl, rfl, rfl, rfl, rfl, rfl, rfl, trivial⟩ ?_
   have h97 := h9.keep0 hc7
   have hO7 := hO6.keep0 hc7
   have hc37 := hc36.trans' hc7
   have hz7 := hc37.size
   clear h9 hc46 hc36 hO6 hO4 hc5 hc6 x6
   cases ok with
   | false =>
    rw [show (if (!false) = true then [((num : Nat) : Int)] else ([] : List Int)) = [((num : Nat) : Int)] from rfl] at htk
    refine runL ?_
    refine go T 13 rfl ?_
    refine ldB T h97 rfl rfl rfl rfl rfl rfl ?_
    refine o1 rfl ?_
    refine op_buildSlice T rfl rfl rfl rfl rfl rfl rfl (fun gb w8 hs8 hc8 h8 => ?_)
    have h8 : Blk w8 gb 2 [i64V ((num : Nat) : Int)] := h8
    have hO8 := hO7.keep0 hc8
    have hz8 := hc8.size
    refine o1 rfl ?_
    refine op_append1 T (f := i64V) rfl rfl rfl rfl rfl rfl rfl rfl rfl hO8 h8 rfl (by omega) (fun u' w9 hO9 hc9 hb9 => ?_)
    have hc39 : Chg [] w3 w9 := (hc37.trans' hc8).trans hc9 (fun k hk hlt => by have := hfp k (by simpa using hk); omega)
    refine go T 5 rfl ?_
    refine adI rfl rfl rfl rfl (by omega) (by omega) ?_
    refine go T 2 rfl ?_
    refine Round_n (i + 1, u') ⟨rfl, rfl, rfl, rfl, rfl, rfl, trivial⟩ ⟨by dsimp only; omega, hc39, fun h hh => ?_, by dsimp only; rw [htk]; exact hO9⟩ (by dsimp only; omega)
    rcases hb9 with h1 | ⟨k, h1, h2⟩
    ·exact hfp h (by rw [← h1]; exact hh)
    ·dsimp only at hh; rw [h1] at hh; injection hh with hh; omega
   | true =>
    rw [show (if (!true) = true then [((num : Nat) : Int)] else ([] : List Int)) = [] from rfl, List.append_nil] at htk
    refine runL ?_
    refine go T 14 rfl ?_
    refine adI rfl rfl rfl rfl (by omega) (by omega) ?_
    refine go T 2 rfl ?_
    exact Round_n (i + 1, up) ⟨rfl, rfl, rfl, rfl, rfl, rfl, trivial⟩ ⟨by dsimp only; omega, hc37, hfp, by dsimp only; rw [htk]; exact hO7⟩ (by dsimp only; omega)
  ·obtain rfl : i = X.length := by omega
   rw [List.take_of_length_le (by rw [List.length_map]; exact Nat.le_refl _)] at hO4
   have hU4 := hU3.keep0 hc4
   refine go T 6 rfl ?_
   refine rndX ?_
   refine go T 11 rfl ?_
   exact post2 (.inl rfl) rfl rfl rfl ⟨(hc1.trans' hc13).trans' hc4, us, up, rfl, hU4, hO4, fun h hh => by have := hfu h hh; omega, fun h hh => by have := hfp h hh; omega⟩
end Go.Proofs.YtiadjkjlifnopaaGreatDoor.Tryz
/-! Scrub: Make. -/
namespace Go.Proofs.YtiadjkjlifnopaaGreatDoor.Tryz
open Go Go.Vc
def MkOk (L : List SegM) : List (List Int) → FsM → PSt → Prop
 | [], _, _ => True
 | ns :: r, s, q => (∀ nm b, readM s nm = some b → b.length ≤ 4194304) ∧ s.calls < 1000000000 - 100 ∧ POk q ∧ q.next < 100 ∧
   (badM (ns.map (itemM s L)) ≠ 0 → MkOk L r s q) ∧ (badM (ns.map (itemM s L)) = 0 → EdI (mkE q.next (ns.map (itemM s L))) ∧ ∃ q', applyP q (mkE q.next (ns.map (itemM s L))) false = some q' ∧ ((makeF s q.next (ns.map (itemM s L))).2 = 0 → MkOk L r (makeF s q.next (ns.map (itemM s L))).1 q'))
def mkAll (L : List SegM) : List (List Int) → FsM → PSt → Int → Int → FsM × PSt × Int × Int
 | [], s, q, n, last => (s, q, n, last)
 | ns :: r, s, q, n, last =>
  if badM (ns.map (itemM s L)) ≠ 0 then mkAll L r s q n 6
  else if (makeF s q.next (ns.map (itemM s L))).2 ≠ 0 then ((makeF s q.next (ns.map (itemM s L))).1, q, n, (makeF s q.next (ns.map (itemM s L))).2)
  else mkAll L r (makeF s q.next (ns.map (itemM s L))).1 ((applyP q (mkE q.next (ns.map (itemM s L))) false).getD q) (n + 1) last
theorem mkAll_nil (L : List SegM) (s : FsM) (q : PSt) (n last : Int) : mkAll L [] s q n last = (s, q, n, last) := rfl
theorem mkAll_cons (L : List SegM) (ns : List Int) (r : List (List Int)) (s : FsM) (q : PSt) (n last : Int) : mkAll L (ns :: r) s q n last = if badM (ns.map (itemM s L)) ≠ 0 then mkAll L r s q n 6
  else if (makeF s q.next (ns.map (itemM s L))).2 ≠ 0 then ((makeF s q.next (ns.map (itemM s L))).1, q, n, (makeF s q.next (ns.map (itemM s L))).2)
  else mkAll L r (makeF s q.next (ns.map (itemM s L))).1 ((applyP q (mkE q.next (ns.map (itemM s L))) false).getD q) (n + 1) last := rfl
theorem chunk3_three : ∀ (n : Nat) (l : List Int), l.length ≤ n → ∀ ns ∈ chunk3 l, ns.length = 3
 | 0, l, h, ns, hns => by
  rw [chunk3_end (by omega)] at hns; cases hns
 | n + 1, l, h, ns, hns => by
  by_cases hl : 3 ≤ l.length
  ·rw [chunk3_step hl] at hns
   rcases List.mem_cons.1 hns with rfl | hns
   ·rw [List.length_take]; omega
   ·exact chunk3_three n (l.drop 3) (by rw [List.length_drop]; omega) ns hns
  ·rw [chunk3_end hl] at hns; cases hns
theorem bytesOf_le {s : FsM} (h : ∀ nm b, readM s nm = some b → b.length ≤ 4194304) (nm : Nm) : (bytesOf s nm).length ≤ 4194304 := by
 unfold bytesOf
 cases hr : readM s nm with
 | none => exact Nat.zero_le _
 | some b => exact h nm b hr
theorem findM_all {P : SegM → Prop} (h0 : P seg0) {L : List SegM} (h : ∀ y ∈ L, P y) (n : Int) : P (findM L n) := by
 unfold findM
 cases hf : L.find? fun s => decide (s.num = n) with
 | none => exact h0
 | some y => exact h y (List.mem_of_find?_eq_some hf)
theorem chg_grow {gm g : Nat} {p p' : FsP} {w w1 w2 : World} (h1 : Chg (gm :: p.fp g) w w1) (hg : Grows w g p p') (h2 : Chg (gm :: p'.fp g) w1 w2) : Chg (gm :: p.fp g) w w2 := h1.trans h2 (fun k hk hlt => by
 rcases List.mem_cons.1 hk with rfl | hk
 ·simp
 ·rcases hg k hk with h | h
  ·simp [h]
  ·omega)
set_option maxHeartbeats 8000000 in
theorem makeAll_has {w0 w : World} {gm g : Nat} {s : FsM} {p : FsP} {st : StM} (x : ManO w0 w gm g s p st false) (hok : POk st.plain) (hnx : st.next ≤ 100) (hmk : MkOk st.segs (groupsM st.segs) s st.plain) (hb : ∀ nm b, readM s nm = some b → b.length ≤ 4194304)
  (hL : ∀ y ∈ st.segs, 0 ≤ y.num ∧ y.num < 100 ∧ -9223372036854775808 ≤ y.size ∧ y.size ≤ 9223372036854775807) :
  Has Tryz.prog 13 #[ptrV g, .pointer (some ⟨gm, 0, none⟩)] w (fun v w' => Chg (gm :: p.fp g) w w' ∧ ∃ s' q' n e p' st' cl, mkAll st.segs (groupsM st.segs) s st.plain 0 0 = (s', q', n, e) ∧ v = .tuple #[.int .i64 n, .int .i64 e] ∧ Grows w g p p' ∧ st'.plain = q' ∧ (e = 0 → cl = false) ∧ ManO w0 w' gm g s' p' st' cl) := by
 obtain ⟨_, _, hk3, hk4⟩ := plain_keys hok
 refine enter Tryz.func13 rfl rfl (by decide) rfl (e := [(0, ptrV g), (1, .pointer (some ⟨gm, 0, none⟩))]) ⟨rfl, rfl, trivial⟩ ?_
 unfold ptrV
 refine run ?_
 refine go T 19 rfl ?_
 refine o1 rfl ?_
 refine op_call rfl rfl rfl (segsO_has x (by omega)) ?_
 rintro va w1 ⟨hc1, hO1, hf1⟩
 have hS1 := hO1.readsK segL_len
 obtain ⟨A, c, rfl, hl1, hl2⟩ := hS1.form
 have x1 := x.keep0 hc1
 have hz1 := hc1.size
 refine go T 7 rfl ?_
 refine o1 rfl ?_
 refine op_call rfl rfl rfl (groups_has A _ c st.segs w1 hS1 (by omega) (fun y hy => by have := hL y hy; omega)) ?_
 rintro vg w2 ⟨hc2, hG2, hfg⟩
 have hgr := hG2.reads
 obtain ⟨B, d, rfl, hd1, hd2⟩ := hgr.form
 have x2 := x1.keep0 hc2
 have hz2 := hc2.size
 have hlt2 : ∀ k ∈ gm :: p.fp g, k < w.heap.size := fun k hk => by
  rcases List.mem_cons.1 hk with rfl | hk
  ·exact x.lt
  ·exact x.fs.at_.lt k hk
 have hFG : Firm (gm :: p.fp g) w2 (fun w => SliceOf (SliceOf Ri64) w (.slice B (groupsM st.segs).length d) (groupsM st.segs)) :=
  (hG2.more (S' := gm :: p.fp g) (fun k hk _ => by rw [List.mem_range]; have := hlt2 k hk; omega)).firm (fun k hk hm => by have := hfg k hk; have := hlt2 k hm; omega)
 have hO2 := hO1.keep0 hc2
 have hFS : Firm (gm :: p.fp g) w2 (fun w => SliceK 6 (RdL segL) w (.slice A st.segs.length c) st.segs) := fun w3 h3 =>
  (hO2.keep h3 (fun k hk hm => by have := hf1 k hk; have := hlt2 k hm; omega)).readsK segL_len
 have hc02 := hc1.trans' hc2
 have hng : (groupsM st.segs).length ≤ 60 := by
  have h1 := chunk3_len _ (sortI (freeN st.segs)) (Nat.le_refl _)
  have h2 : (sortI (freeN st.segs)).length = (freeN st.segs).length := List.length_mergeSort _
  have h3 : (freeN st.segs).length ≤ st.segs.length := by unfold freeN; rw [List.length_map]; exact List.length_filter_le _ _
  unfold groupsM
  omega
 obtain ⟨gs, hgs⟩ : ∃ gs, gs = groupsM st.segs := ⟨_, rfl⟩
 rw [← hgs] at hFG hmk hng hd1 ⊢
 have hgl : ∀ ns ∈ gs, ns.length ≤ 100 := fun ns hns => by rw [hgs] at hns; have := chunk3_three _ _ (Nat.le_refl _) ns hns; omega
 obtain ⟨L, hLe⟩ : ∃ L, L = st.segs := ⟨_, rfl⟩
 rw [← hLe] at hFS hmk hL hk3 ⊢
 clear hG2 hgr hO2 hO1 hS1 hc1 hc2 hgs x x1 hf1 hfg hd2 hl2 hl1
 refine go T 5 rfl ?_
 refine W_loop (σ := Nat × FsM × PSt × Int × Int) (fun t => [(0, .pointer (some ⟨g, 0, none⟩)), (1, .pointer (some ⟨gm, 0, none⟩)), (6, .int .i64 t.2.2.2.1), (7, .int .i64 t.2.2.2.2), (8, .slice A L.length c), (16, .slice B gs.length d), (17, .int .i64 gs.length), (18, .int .i64 (t.1 : Int))])
  (fun t w' => t.1 ≤ gs.length ∧ Chg (gm :: p.fp g) w2 w' ∧ (0 ≤ t.2.2.2.1 ∧ t.2.2.2.1 ≤ t.1) ∧ (t.2.2.2.2 = 0 ∨ t.2.2.2.2 = 6) ∧ mkAll L (gs.drop t.1) t.2.1 t.2.2.1 t.2.2.2.1 t.2.2.2.2 = mkAll L gs s st.plain 0 0 ∧ MkOk L (gs.drop t.1) t.2.1 t.2.2.1 ∧ ∃ p' st', Grows w2 g p p' ∧ st'.plain = t.2.2.1 ∧ ManO w0 w' gm g t.2.1 p' st' false)
  (fun t => gs.length - t.1) (0, s, st.plain, 0, 0) ⟨rfl, rfl, rfl, rfl, rfl, rfl, rfl, rfl, trivial⟩ ⟨Nat.zero_le _, Chg.refl _ _, ⟨Int.le_refl 0, Int.le_refl 0⟩, .inl rfl, rfl, hmk, p, st, Grows.refl _ _ _, rfl, x2⟩ ?_
 clear hmk x2
 rintro ⟨i, si, qi, n, last⟩ w3 ⟨hi, hc3, ⟨hn0, hn1⟩, hlast, heq, hmk, p3, st3, hg3, hp3, x3⟩
 dsimp only at hi hn0 hn1 hlast heq hmk hp3 x3 ⊢
 have hc23 := hc3.size
 refine run ?_
 refine go T 2 rfl ?_
 refine ltS rfl rfl rfl rfl (fun hcmp => ?_) (fun hcmp => ?_)
 ·have hlt : i < gs.length := by omega
  have hx : gs[i]? = some gs[i] := List.getElem?_eq_getElem hlt
  have hns := hgl _ (List.getElem_mem hlt)
  have hdr : gs.drop i = gs[i] :: gs.drop (i + 1) := List.drop_eq_getElem_cons hlt
  rw [hdr] at heq hmk
  obtain ⟨ad, u, rfl, hu, hur⟩ := (hFG w3 hc3).get hx
  have hSL := hFS w3 hc3
  generalize gs[i] = ns at *
  clear hdr hx
  obtain ⟨C, k, rfl, _, _⟩ := hur.form
  obtain ⟨hb3, hcl3, hok3, hnx3, hm1, hm2⟩ := hmk
  rw [mkAll_cons] at heq
  refine go T 10 rfl ?_
  refine o1 rfl (op_index_nat T rfl rfl rfl rfl rfl rfl (by omega) ?_)
  refine o1 rfl (op_load T rfl rfl rfl rfl (by assumption) ?_)
  refine go T 8 rfl ?_
  refine o1 rfl ?_
  refine op_call rfl rfl rfl (open_has x3.fs.at_ A L.length c L C ns.length k ns hSL hur (fun y hy => by have := hL y hy; omega) hb3 (by omega)) ?_
  rintro _ w4 ⟨hc4, gg, vs, vl, vz, vo, rfl, G4⟩
  have x4 := x3.keep0 hc4
  have hGb := G4.blk
  have hz4 := hc4.size
  have hc24 : Chg (gm :: p.fp g) w2 w4 := hc3.trans hc4 (fun k hk _ => by cases hk)
  generalize hI : ns.map (itemM si L) = I at *
  have hbl : ((badM I : Nat) : Int) ≤ 100 := by
   have h1 : badM I ≤ I.length := List.length_filter_le _ _
   have h2 : I.length = ns.length := by rw [← hI, List.length_map]
   omega
  refine go T 4 rfl ?_
  by_cases hbad : badM I = 0
  ·rw [hbad] at hGb hbl
   obtain ⟨hEI, q', hap, hm3⟩ := hm2 hbad
   rw [if_neg (by simpa using hbad)] at heq
   refine go T 5 rfl ?_
   refine ldB T hGb rfl rfl rfl rfl rfl rfl ?_
   refine gtF rfl rfl rfl rfl (by omega) ?_
   refine go T 11 rfl ?_
   refine o1 rfl ?_
   have hst : st3.plain = qi := hp3
   have hnx' : st3.next = qi.next := by rw [← hp3]; rfl
   refine op_call rfl rfl rfl (make_has x4 (by rw [hst]; exact hok3) (by rw [hnx']; exact hnx3) G4 (fun k hk => ?_) ?_ ?_ ?_ (by rw [hnx']; exact hEI) (by rw [hst, hnx']; exact hap) hcl3) ?_
   ·rcases List.mem_cons.1 hk with rfl | hk
    ·exact x3.lt
    ·exact x3.fs.at_.lt k hk
   ·rw [← hI, List.length_map]; exact hns
   ·intro it hit
    rw [← hI] at hit
    obtain ⟨nu, _, rfl⟩ := List.mem_map.1 hit
    exact bytesOf_le hb3 _
   ·intro it hit
    rw [← hI] at hit
    obtain ⟨nu, _, rfl⟩ := List.mem_map.1 hit
    have h1 := findM_all (P := fun y => 0 ≤ y.num ∧ y.num < 100 ∧ -9223372036854775808 ≤ y.size ∧ y.size ≤ 9223372036854775807) (by decide) hL nu
    refine ⟨⟨?_, ?_⟩, ?_, ?_⟩
    ·show _ ≤ (findM L nu).num; omega
    ·show (findM L nu).num ≤ _; omega
    ·exact h1.2.2.1
    ·exact h1.2.2.2
   rintro _ w5 ⟨rfl, hc5, p5, st5, cl5, hg5, h50, h5n, x5⟩
   rw [hnx'] at h50 h5n x5 ⊢
   have hg45 : Grows w2 g p p5 := hg3.trans hg5 (by omega)
   have hc25 : Chg (gm :: p.fp g) w2 w5 := chg_grow hc24 hg3 hc5
   by_cases he : (makeF si qi.next I).2 = 0
   ·rw [if_neg (by simpa using he), hap] at heq
    obtain ⟨hq5, rfl⟩ := h50 he
    have hm3' := hm3 he
    rw [he]
    refine go T 6 rfl ?_
    refine neF rfl rfl rfl rfl (by omega) ?_
    refine go T 7 rfl ?_
    refine adI rfl rfl rfl rfl (by omega) (by omega) ?_
    refine go T 5 rfl ?_
    refine adI rfl rfl rfl rfl (by omega) (by omega) ?_
    refine go T 2 rfl ?_
    exact Round_n (i + 1, (makeF si qi.next I).1, q', n + 1, last) ⟨rfl, rfl, rfl, rfl, rfl, rfl, rfl, rfl, trivial⟩ ⟨by dsimp only; omega, hc25, ⟨by dsimp only; omega, by dsimp only; omega⟩, hlast, heq, hm3', p5, st5, hg45, hq5, x5⟩ (by dsimp only; omega)
   ·rw [if_pos he] at heq
    refine go T 6 rfl ?_
    refine neT rfl rfl rfl rfl (by omega) ?_
    refine go T 15 rfl ?_
    refine rndR ?_
    refine go T 2 rfl ?_
    exact post2 (.inl rfl) rfl rfl rfl ⟨(hc02.mono (fun k hk _ => by cases hk)).trans hc25 (fun k hk _ => hk), _, _, _, _, p5, st5, cl5, heq.symm, rfl, fun k hk => by
     rcases hg45 k hk with h | h
     ·exact .inl h
     ·exact .inr (by omega), by rw [h5n he]; exact hp3, fun h => absurd h he, x5⟩
  ·rw [if_pos hbad] at heq
   have hm1' := hm1 hbad
   refine go T 5 rfl ?_
   refine ldB T hGb rfl rfl rfl rfl rfl rfl ?_
   refine gtT rfl rfl rfl rfl (by omega) ?_
   refine go T 13 rfl ?_
   refine adI rfl rfl rfl rfl (by omega) (by omega) ?_
   refine go T 2 rfl ?_
   exact Round_n (i + 1, si, qi, n, 6) ⟨rfl, rfl, rfl, rfl, rfl, rfl, rfl, rfl, trivial⟩ ⟨by dsimp only; omega, hc24, ⟨by dsimp only; omega, by dsimp only; omega⟩, .inr rfl, heq, hm1', p3, st3, hg3, hp3, x4⟩ (by dsimp only; omega)
 ·obtain rfl : i = gs.length := by omega
  rw [List.drop_length] at heq
  rw [mkAll_nil] at heq
  refine go T 6 rfl ?_
  refine rndX ?_
  refine go T 11 rfl ?_
  exact post2 (.inl rfl) rfl rfl rfl ⟨(hc02.mono (fun k hk _ => by cases hk)).trans hc3 (fun k hk _ => hk), _, _, _, _, p3, st3, false, heq.symm, rfl, fun k hk => by
     rcases hg3 k hk with h | h
     ·exact .inl h
     ·exact .inr (by omega), hp3, fun _ => rfl, x3⟩
end Go.Proofs.YtiadjkjlifnopaaGreatDoor.Tryz
/-! Scrub: files with a manifest and segments, in plain words. -/
namespace Go.Vc
open Go
structure Half (s : FsM) (calls : Int) (u n : Nat) (mb : List UInt8) (F : List (Nm × List UInt8)) : Prop where
 mul : Mul s calls u n
 man : Has1 s manNm mb mb.length
 has : ∀ p ∈ F, Has1 s p.1 p.2 p.2.length
 names : ∀ k, k ≠ manNm → k ∉ F.map (·.1) → looks s.dir k = none
def Flat (s : FsM) : Prop := s.waits = [] ∧ s.lasts = s.dir
theorem append_dirs (s : FsM) (k : Nm) (b : List UInt8) : (appendM s k b).1.waits = s.waits ∧ (appendM s k b).1.lasts = s.lasts ∧ (appendM s k b).1.dir = s.dir := by
 unfold appendM
 dsimp only
 split
 ·exact ⟨rfl, rfl, rfl⟩
 ·split
  ·exact ⟨rfl, rfl, rfl⟩
  ·split <;> exact ⟨rfl, rfl, rfl⟩
theorem sync_dirs (s : FsM) (k : Nm) : (syncM s k).1.waits = s.waits ∧ (syncM s k).1.lasts = s.lasts ∧ (syncM s k).1.dir = s.dir := by
 unfold syncM
 dsimp only
 split
 ·exact ⟨rfl, rfl, rfl⟩
 ·split <;> exact ⟨rfl, rfl, rfl⟩
theorem syncDir_flat {s : FsM} {calls : Int} {u n : Nat} (h : Mul s calls u n) : Flat (syncDirM s).1 := by
 unfold syncDirM
 dsimp only
 rw [h.nofail, if_neg (by simp)]
 exact ⟨rfl, rfl⟩
structure Full (s : FsM) (calls : Int) (u n : Nat) (mb : List UInt8) (q : PSt) (F : List (Nm × List UInt8)) : Prop where
 mul : Mul s calls u n
 man : Keep s manNm mb mb.length
 file : FileOk mb q
 ok : POk q
 has : ∀ p ∈ F, Keep s p.1 p.2 p.2.length
 names : ∀ k, k ≠ manNm → k ∉ F.map (·.1) → looks s.dir k = none
 flat : Flat s
section
variable {s : FsM} {calls : Int} {u n : Nat} {mb b : List UInt8} {q q' : PSt} {F : List (Nm × List UInt8)} {nm : Nm} {e : EditM}
theorem half_put (h : Half s calls u n mb F) (hm : mayM nm = true) (hne : nm ≠ manNm) (hnew : nm ∉ F.map (·.1)) (hn : n < 150) (hr : u + b.length ≤ 1048576) :
  (createM s nm).2 = 0 ∧ (appendM (createM s nm).1 nm b).2 = 0 ∧ (syncM (appendM (createM s nm).1 nm b).1 nm).2 = 0 ∧ Half (syncM (appendM (createM s nm).1 nm b).1 nm).1 (calls + 3) (u + b.length) (n + 1) mb (F ++ [(nm, b)]) := by
 obtain ⟨e1, m1, h1, d1, k1, _⟩ := mul_create h.mul hm hn
 obtain ⟨e2, m2, h2, d2, k2, _⟩ := mul_append (c := b) m1 h1 hr
 obtain ⟨e3, m3, h3, d3, k3, _⟩ := mul_sync m2 h2
 rw [List.nil_append] at h3
 refine ⟨e1, e2, e3, ?_, ?_, fun p hp => ?_, fun k hk hF => ?_⟩
 ·rw [show calls + 3 = calls + 1 + 1 + 1 from by omega]; exact m3
 ·exact k3 _ _ _ hne.symm (k2 _ _ _ hne.symm (k1 _ _ _ hne.symm h.man))
 ·rcases List.mem_append.1 hp with hp | hp
  ·have hpn : p.1 ≠ nm := fun e => hnew (List.mem_map.2 ⟨p, hp, e⟩)
   exact k3 _ _ _ hpn (k2 _ _ _ hpn (k1 _ _ _ hpn (h.has p hp)))
  ·rw [List.mem_singleton.1 hp]; exact h3
 ·rw [List.map_append, List.mem_append, not_or] at hF
  have hkn : k ≠ nm := fun e => hF.2 (by simp [e])
  rw [d3, d2, d1 k hkn]
  exact h.names k hk hF.1
theorem half_dir (h : Half s calls u n mb F) (hf : FileOk mb q) (hq : POk q) : (syncDirM s).2 = 0 ∧ Full (syncDirM s).1 (calls + 1) u n mb q F := by
 obtain ⟨e1, m1, d1, k1⟩ := mul_syncDir h.mul
 exact ⟨e1, m1, k1 _ _ _ h.man, hf, hq, fun p hp => k1 _ _ _ (h.has p hp), fun k hk hF => by rw [d1]; exact h.names k hk hF, syncDir_flat h.mul⟩
theorem Full.half (h : Full s calls u n mb q F) : Half s calls u n mb F := ⟨h.mul, h.man.has, fun p hp => (h.has p hp).has, h.names⟩
theorem full_commit (h : Full s calls u n mb q F) (hF : manNm ∉ F.map (·.1)) (hg : EdGood e) (ha : applyP q e false = some q') (hr : u + (encE e).1.length ≤ 1048576) : (commitF s (encE e).1).2 = 0 ∧ Full (commitF s (encE e).1).1 (calls + 2) (u + (encE e).1.length) n (mb ++ (encE e).1) q' F := by
 obtain ⟨e2, m2, h2, d2, k2, k2', k2''⟩ := mul_append (c := (encE e).1) h.mul h.man.has hr
 obtain ⟨e3, m3, h3, d3, k3, k3', k3''⟩ := mul_sync m2 h2
 unfold commitF
 rw [if_pos e2]
 have hpn : ∀ p ∈ F, p.1 ≠ manNm := fun p hp e => hF (List.mem_map.2 ⟨p, hp, e⟩)
 refine ⟨e3, ?_, k3'' (k2'' h.man), h.file.commit hg ha, applyP_ok h.ok hg.sums ha, fun p hp => k3' _ _ _ (hpn p hp) (k2' _ _ _ (hpn p hp) (h.has p hp)), fun k hk hk' => by rw [d3, d2]; exact h.names k hk hk', ?_⟩
 ·rw [show calls + 2 = calls + 1 + 1 from by omega]; exact m3
 ·obtain ⟨a1, a2, a3⟩ := append_dirs s manNm (encE e).1
  obtain ⟨b1, b2, b3⟩ := sync_dirs (appendM s manNm (encE e).1).1 manNm
  exact ⟨b1.trans (a1.trans h.flat.1), b2.trans (a2.trans (h.flat.2.trans (b3.trans a3).symm))⟩
theorem Full.read (h : Full s calls u n mb q F) {p : Nm × List UInt8} (hp : p ∈ F) : readM s p.1 = some p.2 := (h.has p hp).has.read
theorem Full.bytes (h : Full s calls u n mb q F) (hm : mb.length ≤ 4194304) (hF : ∀ p ∈ F, p.2.length ≤ 4194304) : ∀ nm b, readM s nm = some b → b.length ≤ 4194304 := fun nm b hb => by
 by_cases h1 : nm = manNm
 ·subst h1
  rw [h.man.has.read] at hb
  injection hb with hb; rw [← hb]; exact hm
 ·by_cases h2 : nm ∈ F.map (·.1)
  ·obtain ⟨p, hp, rfl⟩ := List.mem_map.1 h2
   rw [h.read hp] at hb
   injection hb with hb; rw [← hb]; exact hF p hp
  ·unfold readM at hb
   rw [h.names nm h1 h2] at hb; cases hb
theorem half_one {i : Nat} (h : OneAt s 1048576 calls manNm mb mb.length i) (hl : Lasts s manNm i) : Half s calls mb.length 1 mb [] := by
 refine ⟨⟨h.room, h.calls, h.fail, by rw [h.used]; exact Nat.le_refl _, by rw [h.dir]; exact Nat.le_refl _, ?_, ?_, ?_, ?_⟩, ⟨i, h.looks, h.file⟩, (fun p hp => by cases hp), fun k hk _ => ?_⟩
 ·rw [h.dir]; exact List.pairwise_singleton _ _
 ·rw [hl.last]; exact List.pairwise_singleton _ _
 ·rw [h.dir]; simp
 ·rw [h.dir]; intro p hp; rw [List.mem_singleton.1 hp]; exact h.lt
 ·rw [h.dir]; simp only [looks]; rw [if_neg (fun e => hk e.symm)]
end
/-! ### The segments that Made makes -/
def scSeg (i : Nat) (b : List UInt8) (sl : Bool) : SegM := ⟨(i : Int) + 1, sl, 0, 0, b.length, crcN b⟩
def slOf (G : List Bool) (i : Nat) : Bool := !(G[i]?.getD false)
def scSegs (B : List (List UInt8)) (G : List Bool) : List SegM := B.mapIdx fun i b => scSeg i b (slOf G i)
def scF (B : List (List UInt8)) (G : List Bool) : List (Nm × List UInt8) := B.mapIdx fun i b => (fileNm (scSeg i b (slOf G i)), b)
def scE (L : List SegM) : EditM := { next := 50, seq := 0, adds := L, dels := [], pars := [], drops := [] }
theorem scSegs_get {B : List (List UInt8)} {G : List Bool} {i : Nat} {y : SegM} (h : (scSegs B G)[i]? = some y) : ∃ b, B[i]? = some b ∧ y = scSeg i b (slOf G i) := by
 unfold scSegs at h
 rw [List.getElem?_mapIdx] at h
 cases hb : B[i]? with
 | none => rw [hb] at h; cases h
 | some b => rw [hb] at h; injection h with h; exact ⟨b, rfl, h.symm⟩
theorem scSegs_num (B : List (List UInt8)) (G : List Bool) : (scSegs B G).map numK = (List.range B.length).map fun (i : Nat) => (i : Int) + 1 := by
 apply List.ext_getElem?
 intro i
 unfold scSegs
 rw [List.getElem?_map, List.getElem?_mapIdx, List.getElem?_map]
 by_cases h : i < B.length
 ·rw [List.getElem?_range h, List.getElem?_eq_getElem h]; rfl
 ·rw [List.getElem?_eq_none (by omega), List.getElem?_eq_none (by rw [List.length_range]; omega)]; rfl
theorem scSegs_len (B : List (List UInt8)) (G : List Bool) : (scSegs B G).length = B.length := by unfold scSegs; exact List.length_mapIdx
theorem range_nodup (n : Nat) : ((List.range n).map fun (i : Nat) => (i : Int) + 1).Nodup := by
 have h := List.nodup_range (n := n)
 unfold List.Nodup at *
 rw [List.pairwise_map]
 exact h.imp fun {a b} hab e => hab (by omega)
theorem range_sorted (n : Nat) : ((List.range n).map fun (i : Nat) => (i : Int) + 1).Pairwise (· ≤ ·) := by
 rw [List.pairwise_map]
 exact (List.pairwise_lt_range (n := n)).imp fun {a b} hab => by omega
section
variable {B : List (List UInt8)} {G : List Bool}
theorem scSeg_mem {y : SegM} (hl : B.length ≤ 12) (hb : ∀ b ∈ B, b.length ≤ 300) (h : y ∈ scSegs B G) : (1 ≤ y.num ∧ y.num ≤ 12) ∧ y.group = 0 ∧ y.member = 0 ∧ (0 ≤ y.size ∧ y.size ≤ 300) ∧ y.sum < 4294967296 := by
 obtain ⟨i, hi⟩ := List.getElem?_of_mem h
 obtain ⟨b, h1, rfl⟩ := scSegs_get hi
 have h2 := (List.getElem?_eq_some_iff.1 h1).1
 have h3 := hb b (List.mem_of_getElem? h1)
 refine ⟨⟨?_, ?_⟩, rfl, rfl, ⟨?_, ?_⟩, crcN_lt b⟩
 ·show (1 : Int) ≤ (i : Int) + 1; omega
 ·show (i : Int) + 1 ≤ 12; omega
 ·show (0 : Int) ≤ (b.length : Int); omega
 ·show (b.length : Int) ≤ 300; omega
theorem scE_ok (hl : B.length ≤ 12) (hb : ∀ b ∈ B, b.length ≤ 300) : EditOk (scE (scSegs B G)) := by
 refine ⟨⟨(by decide : (0:Int) ≤ 50), (by decide : (50:Int) ≤ 1125899906842624)⟩, ⟨(by decide : (0:Int) ≤ 0), (by decide : (0:Int) ≤ 1125899906842624)⟩, ?_, by simp [scE], by simp [scE], by simp [scE], by simp [scE], by simp [scE], fun y hy => ?_, by simp [scE]⟩
 ·show (scSegs B G).length ≤ 60; rw [scSegs_len]; omega
 ·obtain ⟨h1, h2, h3, h4, h5⟩ := scSeg_mem hl hb hy
  exact ⟨⟨h1.1, by omega⟩, by rw [h2]; exact ⟨by decide, by decide⟩, by rw [h3]; exact ⟨by decide, by decide⟩, ⟨h4.1, by omega⟩⟩
theorem scE_good (hl : B.length ≤ 12) (hb : ∀ b ∈ B, b.length ≤ 300) : EdGood (scE (scSegs B G)) := edGood (scE_ok hl hb) ⟨fun s hs => (scSeg_mem hl hb hs).2.2.2.2, (fun q hq => by cases hq)⟩
theorem scE_apply (hl : B.length ≤ 12) (hb : ∀ b ∈ B, b.length ≤ 300) : applyP p0 (scE (scSegs B G)) false = some ⟨scSegs B G, [], 50, 1⟩ := by
 have hnd : ((scSegs B G).map numK).Nodup := by rw [scSegs_num]; exact range_nodup _
 have hsr : (scSegs B G).Pairwise fun x y => numK x ≤ numK y := by
  have := range_sorted B.length
  rw [← scSegs_num B G, List.pairwise_map] at this
  exact this
 have h1 : putK numK (scSegs B G) [] = some (scSegs B G) := by rw [putK_all (by simpa using hnd)]; simp
 have hf : finePM (scSegs B G) [] 50 [] = true := by
  unfold finePM
  simp only [List.all_nil, Bool.true_and, Bool.and_eq_true, decide_eq_true_eq, Bool.not_eq_true', List.any_eq_false]
  refine ⟨by rw [scSegs_len]; simp; omega, fun x hx => ?_, (fun x hx => by cases hx)⟩
  have := (scSeg_mem hl hb hx).1
  simp; omega
 have hB : editB (scE (scSegs B G)) = true := editB_ok.2 (scE_ok hl hb)
 unfold applyP
 rw [hB]
 unfold scE p0
 dsimp only [takeK, Option.getD]
 rw [h1, show putK gKey ([] : List ParM) [] = some [] from rfl, show laterM 1 50 = (50, true) from rfl, show laterM 1 0 = (1, true) from rfl]
 dsimp only [Option.map, Option.isSome]
 simp only [sortK_id hnd hsr, show sortK gKey ([] : List ParM) = [] from rfl]
 simp
 exact hf
end
end Go.Vc
/-! Manifests: the files of ManifestOld, in plain words. -/
namespace Go.Vc
open Go
section
variable (inn sl : Nat → Bool)
end
end Go.Vc
/-! Manifests: ManifestOld. -/
namespace Go.Proofs.YtiadjkjlifnopaaGreatDoor.Tryz
open Go Go.Vc
section
variable {w0 w w' : World} {gm g : Nat} {s s' : FsM} {p p' : FsP} {st : StM} {cl : Bool}
theorem sliceK_nil {α : Type} {k : Nat} {R : World → List Value → α → Prop} {w w' : World} {v : Value} (h : SliceK k R w v ([] : List α)) : SliceK k R w' v [] := by
 unfold SliceK at *
 obtain ⟨A, c, h1, h2, h3, _⟩ := h
 exact ⟨A, c, h1, h2, h3, fun i x hx => by simp at hx⟩
theorem ManO.beside (x : ManO w0 w gm g s p stM0 cl) {S : List Nat} (hc : Chg S w w') (hS : ∀ k ∈ S, k ∉ gm :: p.fp g) (hS0 : ∀ k ∈ S, w0.heap.size ≤ k) : ManO w0 w' gm g s p stM0 cl := by
 obtain ⟨vs, vp, hm, hst⟩ := x.rows
 refine ⟨⟨x.fs.chg.trans hc (fun k hk hlt => by have := hS0 k hk; omega), x.fs.at_.keep hc (fun k hk hm => hS k hm (by simp [hk])), x.fs.fresh⟩, ⟨vs, vp, Blk.keep hm hc (fun h => hS gm h (by simp)), fun w1 _ => ?_⟩, x.out, x.fresh⟩
 have h := hst.now
 exact ⟨sliceK_nil h.segs, sliceK_nil h.pars, fun q hq => by cases hq⟩
end
structure OMid (w w' : World) (gm g : Nat) (s : FsM) (p : FsP) (g9 : Nat) (vx vw : Value) (L : List SegM) (M : List Nm) : Prop where
 man : ManO w w' gm g s p stM0 false
 edit : Blk w' g9 49 [.int .i64 50, .int .i64 0, vx, .slice none 0 0, .slice none 0 0, .slice none 0 0]
 adds : Own w' 26 6 vx L.length (L.flatMap segL)
 want : Own w' 9 1 vw M.length (M.flatMap strL)
 out9 : g9 ∉ gm :: p.fp g
 outx : ∀ k, vx.ownBlock = some k → k ∉ gm :: p.fp g
 outw : ∀ k, vw.ownBlock = some k → k ∉ gm :: p.fp g
 fr9 : w.heap.size ≤ g9
 frx : ∀ k, vx.ownBlock = some k → w.heap.size ≤ k
 frw : ∀ k, vw.ownBlock = some k → w.heap.size ≤ k
section
variable {w w1 w2 : World} {gm g : Nat} {s s' : FsM} {p p' : FsP} {g9 : Nat} {vx vw : Value} {L : List SegM} {M : List Nm}
theorem OMid.keep0 (x : OMid w w1 gm g s p g9 vx vw L M) (hc : Chg [] w1 w2) : OMid w w2 gm g s p g9 vx vw L M :=
 ⟨x.man.keep0 hc, x.edit.keep0 hc, x.adds.keep0 hc, x.want.keep0 hc, x.out9, x.outx, x.outw, x.fr9, x.frx, x.frw⟩
theorem OMid.fs (x : OMid w w1 gm g s p g9 vx vw L M) (hc : Chg (p.fp g) w1 w2) (x' : FsO w w2 g s' p') (hg : Grows w1 g p p') : OMid w w2 gm g s' p' g9 vx vw L M := by
 have out : ∀ k, k < w1.heap.size → k ∉ gm :: p.fp g → k ∉ gm :: p'.fp g := fun k hk hn h => by
  rcases List.mem_cons.1 h with h | h
  ·exact hn (by simp [h])
  ·rcases hg k h with h | h
   ·exact hn (by simp [h])
   ·omega
 have out' : ∀ {k}, k ∉ gm :: p.fp g → k ∉ p.fp g := fun h hm => h (by simp [hm])
 exact ⟨x.man.step hc x' hg, x.edit.keep hc (out' x.out9), x.adds.keep hc (fun k hk hm => out' (x.outx k hk) hm), x.want.keep hc (fun k hk hm => out' (x.outw k hk) hm),
  out _ x.edit.lt x.out9, fun k hk => out k (x.adds.lt hk) (x.outx k hk), fun k hk => out k (x.want.lt hk) (x.outw k hk), x.fr9, x.frx, x.frw⟩
theorem OMid.push (x : OMid w w1 gm g s p g9 vx vw L M) {u : Value} {M' : List Nm} (ho : Own w2 9 1 u M'.length (M'.flatMap strL)) (hc : Chg vw.ownBlock.toList w1 w2) (hb : u.ownBlock = vw.ownBlock ∨ ∃ h, u.ownBlock = some h ∧ w1.heap.size ≤ h) : OMid w w2 gm g s p g9 vx u L M' := by
 have hz := x.man.fs.chg.size
 have hk9 : g9 ∉ vw.ownBlock.toList := out_of x.edit x.want (by decide)
 have hx : ∀ k, vx.ownBlock = some k → k ∉ vw.ownBlock.toList := fun k hk hm => by
  obtain ⟨c1, h1⟩ := x.adds.row hk
  obtain ⟨c2, h2⟩ := x.want.row (show vw.ownBlock = some k by simpa using hm)
  exact h1.ne_ h2 (by decide) rfl
 refine ⟨x.man.beside hc (fun k hk => x.outw k (by simpa using hk)) (fun k hk => x.frw k (by simpa using hk)), x.edit.keep hc hk9, x.adds.keep hc hx, ho, x.out9, x.outx, fun k hk => ?_, x.fr9, x.frx, fun k hk => ?_⟩
 ·rcases hb with h | ⟨h', h1, h2⟩
  ·exact x.outw k (by rw [← h]; exact hk)
  ·rw [h1] at hk; injection hk with hk; subst hk
   intro hm
   rcases List.mem_cons.1 hm with h | h
   ·have := x.man.lt; omega
   ·have := x.man.fs.at_.lt _ h; omega
 ·rcases hb with h | ⟨h', h1, h2⟩
  ·exact x.frw k (by rw [← h]; exact hk)
  ·rw [h1] at hk; injection hk with hk; omega
theorem OMid.add (x : OMid w w1 gm g s p g9 vx vw L M) {w3 : World} {u : Value} {L' : List SegM} (ho : Own w2 26 6 u L'.length (L'.flatMap segL)) (hc : Chg vx.ownBlock.toList w1 w2) (hb : u.ownBlock = vx.ownBlock ∨ ∃ h, u.ownBlock = some h ∧ w1.heap.size ≤ h)
  (hc3 : Chg [g9] w2 w3) (h9 : Blk w3 g9 49 [.int .i64 50, .int .i64 0, u, .slice none 0 0, .slice none 0 0, .slice none 0 0]) : OMid w w3 gm g s p g9 u vw L' M := by
 have hz := x.man.fs.chg.size
 have hw : ∀ k, vw.ownBlock = some k → k ∉ vx.ownBlock.toList := fun k hk hm => by
  obtain ⟨c1, h1⟩ := x.want.row hk
  obtain ⟨c2, h2⟩ := x.adds.row (show vx.ownBlock = some k by simpa using hm)
  exact h1.ne_ h2 (by decide) rfl
 have hk9 : g9 ∉ vx.ownBlock.toList := out_of x.edit x.adds (by decide)
 have h92 := x.edit.keep hc hk9
 have w9 : ∀ k, vw.ownBlock = some k → k ∉ [g9] := fun k hk hm => by
  rw [List.mem_singleton.1 hm] at hk
  obtain ⟨c1, h1⟩ := x.want.row hk
  exact h1.ne_ x.edit (by decide) rfl
 have u9 : ∀ k, u.ownBlock = some k → k ∉ [g9] := fun k hk hm => by
  rw [List.mem_singleton.1 hm] at hk
  obtain ⟨c1, h1⟩ := ho.row hk
  exact h1.ne_ h92 (by decide) rfl
 have hman := x.man.beside hc (fun k hk => x.outx k (by simpa using hk)) (fun k hk => x.frx k (by simpa using hk))
 have hman3 := hman.beside hc3 (fun k hk => by rw [List.mem_singleton.1 hk]; exact x.out9) (fun k hk => by rw [List.mem_singleton.1 hk]; exact x.fr9)
 refine ⟨hman3, h9, ho.keep hc3 u9, (x.want.keep hc hw).keep hc3 w9, x.out9, fun k hk => ?_, x.outw, x.fr9, fun k hk => ?_, x.frw⟩
 ·rcases hb with h | ⟨h', h1, h2⟩
  ·exact x.outx k (by rw [← h]; exact hk)
  ·rw [h1] at hk; injection hk with hk; subst hk
   intro hm
   rcases List.mem_cons.1 hm with h | h
   ·have := x.man.lt; omega
   ·have := x.man.fs.at_.lt _ h; omega
 ·rcases hb with h | ⟨h', h1, h2⟩
  ·exact x.frx k (by rw [← h]; exact hk)
  ·rw [h1] at hk; injection hk with hk; omega
end
end Go.Proofs.YtiadjkjlifnopaaGreatDoor.Tryz
/-! Short: the front of a row of bytes. -/
namespace Go.Proofs.YtiadjkjlifnopaaGreatDoor.Tryz
open Go Go.Vc
theorem shortB_has (A : Option Addr) (n c : Nat) (l : List UInt8) (k : Nat) (w : World) (hl : SliceOf Ru8 w (.slice A n c) l) (hk : k < 1000000000) :
  Has Tryz.prog 39 #[.slice A n c, .int .i64 (k : Int)] w (fun v w' => w' = w ∧ v = .slice A (l.take k).length c) := by
 obtain ⟨rfl, hl1, hl2⟩ := hl.len
 unfold maxLen at hl2
 refine enter Tryz.func39 rfl rfl (by decide) rfl (e := [(0, .slice A l.length c), (1, .int .i64 (k : Int))]) ⟨rfl, rfl, trivial⟩ ?_
 by_cases h : k < l.length
 ·refine run ?_
  refine go T 11 rfl ?_
  refine gtT rfl rfl rfl rfl (by omega) ?_
  refine go T 7 rfl ?_
  refine o1 rfl ?_
  refine op_slice_to T (h' := k) (k := .i64) rfl rfl rfl rfl rfl (by omega) ?_
  refine go T 5 rfl ?_
  exact post1 (.inl rfl) rfl rfl ⟨rfl, by rw [List.length_take, Nat.min_eq_left (by omega)]⟩
 ·rw [List.take_of_length_le (by omega)]
  refine run ?_
  refine go T 11 rfl ?_
  refine gtF rfl rfl rfl rfl (by omega) ?_
  refine go T 12 rfl ?_
  exact post1 (.inl rfl) rfl rfl ⟨rfl, rfl⟩
end Go.Proofs.YtiadjkjlifnopaaGreatDoor.Tryz
/-! Scrub: the law's own names. -/
namespace Go.Proofs.YtiadjkjlifnopaaGreatDoor.Tryz
open Go Go.Vc
theorem dig_wrap (n : Nat) (h : n < 10) : IntKind.wrap .u8 (48 + (n : Int)) = 48 + (n : Int) ∧ u8s [UInt8.ofNat (48 + n)] = [.int .u8 (48 + (n : Int))] := by
 have key : ∀ i : Fin 10, IntKind.wrap .u8 (48 + (i.val : Int)) = 48 + (i.val : Int) ∧ ((UInt8.ofNat (48 + i.val)).toNat : Int) = 48 + (i.val : Int) := by decide
 have h1 := key ⟨n, h⟩
 exact ⟨h1.1, by unfold u8s; rw [List.map_cons, List.map_nil, h1.2]⟩
theorem name23_has (n : Nat) (en : List UInt8) (w : World) (hn : n < 100) (hen : en.length ≤ 10) : Has Tryz.prog 34 #[.int .i64 (n : Int), .string (str en)] w (fun v w' => Chg [] w w' ∧ v = .string (str (dig2 n ++ en))) := by
 refine enter Tryz.func34 rfl rfl (by decide) rfl (e := [(0, .int .i64 (n : Int)), (1, .string (str en))]) ⟨rfl, rfl, trivial⟩ ?_
 by_cases h10 : n < 10
 ·have hd : dig2 n = [UInt8.ofNat (48 + n)] := if_pos h10
  obtain ⟨h1, h2⟩ := dig_wrap n h10
  refine run ?_
  refine go T 9 rfl ?_
  refine ltT rfl rfl rfl rfl (by omega) ?_
  refine go T 6 rfl ?_
  refine adI rfl rfl rfl rfl (by omega) (by omega) ?_
  refine o1 rfl (op_convert_fit T rfl rfl rfl rfl (wrap_u8_in (by omega) (by omega)) ?_)
  refine o1 rfl ?_
  refine op_buildSlice T rfl rfl rfl rfl rfl rfl rfl (fun gb w1 hs1 hc1 hg1 => ?_)
  have hg1 : Blk w1 gb 5 [.int .u8 (48 + (n : Int))] := hg1
  have ho : Own w1 5 1 (.slice (some ⟨gb, 0, none⟩) 1 1) [UInt8.ofNat (48 + n)].length (u8s [UInt8.ofNat (48 + n)]) := Own.mk hg1 (Nat.le_refl _) (by unfold maxLen; omega) rfl (by rw [h2]; rfl)
  refine o1 rfl ?_
  refine op_string T (l := [UInt8.ofNat (48 + n)]) rfl rfl rfl rfl rfl ho.bytes ?_
  refine go T 1 rfl ?_
  refine o1 rfl ?_
  refine op_str_add (a := [UInt8.ofNat (48 + n)]) (b := en) rfl rfl rfl (by simp; omega) ?_
  refine go T 5 rfl ?_
  exact post1 (.inl rfl) rfl rfl ⟨hc1, by rw [hd]⟩
 ·have hd : dig2 n = [UInt8.ofNat (48 + n / 10), UInt8.ofNat (48 + n % 10)] := if_neg h10
  obtain ⟨h1, h2⟩ := dig_wrap (n / 10) (by omega)
  obtain ⟨h3, h4⟩ := dig_wrap (n % 10) (by omega)
  have hq : Int.tdiv (n : Int) 10 = ((n / 10 : Nat) : Int) := by rw [show (10 : Int) = ((10 : Nat) : Int) from rfl, Int.ofNat_tdiv]
  have hr : Int.tmod (n : Int) 10 = ((n % 10 : Nat) : Int) := by rw [show (10 : Int) = ((10 : Nat) : Int) from rfl, Int.ofNat_tmod]
  have hr2 : Int.tmod ((n / 10 : Nat) : Int) 10 = ((n / 10 : Nat) : Int) := by rw [show (10 : Int) = ((10 : Nat) : Int) from rfl, ← Int.ofNat_tmod, Nat.mod_eq_of_lt (by omega)]
  refine run ?_
  refine go T 9 rfl ?_
  refine ltF rfl rfl rfl rfl (by omega) ?_
  refine go T 8 rfl ?_
  refine o1 rfl ?_
  refine op_quo (r := ((n / 10 : Nat) : Int)) rfl rfl rfl (by decide) (by rw [hq]; exact wrap_i64_in (by omega) (by omega)) ?_
  refine o1 rfl (op_rem rfl rfl rfl (by omega) rfl ?_)
  refine adI rfl rfl rfl rfl (by omega) (by omega) ?_
  refine o1 rfl (op_convert_fit T rfl rfl rfl rfl (wrap_u8_in (by omega) (by omega)) ?_)
  refine go T 1 rfl ?_
  refine o1 rfl (op_rem rfl rfl rfl (by omega) rfl ?_)
  refine adI rfl rfl rfl rfl (by omega) (by omega) ?_
  refine o1 rfl (op_convert_fit T rfl rfl rfl rfl (wrap_u8_in (by omega) (by omega)) ?_)
  refine o1 rfl ?_
  refine op_buildSlice T rfl rfl rfl rfl rfl rfl rfl (fun gb w1 hs1 hc1 hg1 => ?_)
  have hg1 : Blk w1 gb 5 [.int .u8 (48 + Int.tmod ((n / 10 : Nat) : Int) 10), .int .u8 (48 + Int.tmod (n : Int) 10)] := hg1
  rw [hr2, hr] at hg1
  have h5 : u8s [UInt8.ofNat (48 + n / 10), UInt8.ofNat (48 + n % 10)] = [.int .u8 (48 + ((n / 10 : Nat) : Int)), .int .u8 (48 + ((n % 10 : Nat) : Int))] := by
   show u8s ([UInt8.ofNat (48 + n / 10)] ++ [UInt8.ofNat (48 + n % 10)]) = _
   unfold u8s at *
   rw [List.map_append, h2, h4]; rfl
  have ho : Own w1 5 1 (.slice (some ⟨gb, 0, none⟩) 2 2) [UInt8.ofNat (48 + n / 10), UInt8.ofNat (48 + n % 10)].length (u8s [UInt8.ofNat (48 + n / 10), UInt8.ofNat (48 + n % 10)]) := Own.mk hg1 (Nat.le_refl _) (by unfold maxLen; omega) rfl (by rw [h5]; rfl)
  refine o1 rfl ?_
  refine op_string T (l := [UInt8.ofNat (48 + n / 10), UInt8.ofNat (48 + n % 10)]) rfl rfl rfl rfl rfl ho.bytes ?_
  refine go T 1 rfl ?_
  refine o1 rfl ?_
  refine op_str_add (a := [UInt8.ofNat (48 + n / 10), UInt8.ofNat (48 + n % 10)]) (b := en) rfl rfl rfl (by simp; omega) ?_
  refine go T 4 rfl ?_
  exact post1 (.inl rfl) rfl rfl ⟨hc1, by rw [hd]⟩
end Go.Proofs.YtiadjkjlifnopaaGreatDoor.Tryz
/-! Manifests: the edits of ManifestGrows, in plain words. -/
namespace Go.Vc
open Go
theorem man0_len : (encE man0).1.length ≤ 60 := by decide +kernel
end Go.Vc
/-! Scrub: Made. -/
namespace Go.Vc
open Go
def filesB (l : List (List UInt8)) : List (List UInt8) := (l.take 12).map (·.take 300)
theorem filesB_len (l : List (List UInt8)) : (filesB l).length = min 12 l.length := by unfold filesB; rw [List.length_map, List.length_take]
theorem filesB_le {l : List (List UInt8)} {b : List UInt8} (h : b ∈ filesB l) : b.length ≤ 300 := by
 obtain ⟨x, _, rfl⟩ := List.mem_map.1 h
 rw [List.length_take]; omega
theorem filesB_get {l : List (List UInt8)} {i : Nat} {x : List UInt8} (h : l[i]? = some x) (hi : i < 12) : (filesB l)[i]? = some (x.take 300) := by
 unfold filesB
 rw [List.getElem?_map, List.getElem?_take_of_lt hi, h]; rfl
theorem scName (i : Nat) (sl : Bool) (hi : i < 12) : mayM (dig2 (i + 1) ++ (if sl = true then endSeg else endRaw)) = true ∧ dig2 (i + 1) ++ (if sl = true then endSeg else endRaw) ≠ manNm := by
 have key : ∀ (i : Fin 12) (sl : Bool), mayM (dig2 (i.val + 1) ++ (if sl = true then endSeg else endRaw)) = true ∧ dig2 (i.val + 1) ++ (if sl = true then endSeg else endRaw) ≠ manNm := by decide +kernel
 exact key ⟨i, hi⟩ sl
theorem scName_inj (i j : Nat) (sl sl' : Bool) (hi : i < 12) (hj : j < 12) (h : dig2 (i + 1) ++ (if sl = true then endSeg else endRaw) = dig2 (j + 1) ++ (if sl' = true then endSeg else endRaw)) : i = j := by
 have key : ∀ (i j : Fin 12) (sl sl' : Bool), dig2 (i.val + 1) ++ (if sl = true then endSeg else endRaw) = dig2 (j.val + 1) ++ (if sl' = true then endSeg else endRaw) → i = j := by decide +kernel
 have := key ⟨i, hi⟩ ⟨j, hj⟩ sl sl' h
 injection this
theorem scNm (i : Nat) (b : List UInt8) (sl : Bool) : fileNm (scSeg i b sl) = dig2 (i + 1) ++ (if sl = true then endSeg else endRaw) := by
 unfold fileNm scSeg
 dsimp only
 rw [show ((i : Int) + 1).toNat = i + 1 from by omega]
theorem scF_get {B : List (List UInt8)} {G : List Bool} {i : Nat} {p : Nm × List UInt8} (h : (scF B G)[i]? = some p) : ∃ b, B[i]? = some b ∧ p = (fileNm (scSeg i b (slOf G i)), b) := by
 unfold scF at h
 rw [List.getElem?_mapIdx] at h
 cases hb : B[i]? with
 | none => rw [hb] at h; cases h
 | some b => rw [hb] at h; injection h with h; exact ⟨b, rfl, h.symm⟩
theorem scF_len (B : List (List UInt8)) (G : List Bool) : (scF B G).length = B.length := by unfold scF; exact List.length_mapIdx
theorem scF_new {B : List (List UInt8)} {G : List Bool} {i : Nat} {b : List UInt8} (hl : B.length ≤ 12) (hi : i < B.length) : fileNm (scSeg i b (slOf G i)) ∉ ((scF B G).take i).map (·.1) := fun hm => by
 obtain ⟨p, hp, he⟩ := List.mem_map.1 hm
 obtain ⟨j, hj⟩ := List.getElem?_of_mem hp
 have hji : j < i := by have := (List.getElem?_eq_some_iff.1 hj).1; rw [List.length_take] at this; omega
 rw [List.getElem?_take_of_lt hji] at hj
 obtain ⟨b', _, rfl⟩ := scF_get hj
 dsimp only at he
 rw [scNm, scNm] at he
 have := scName_inj j i _ _ (by omega) (by omega) he
 omega
theorem scF_man {B : List (List UInt8)} {G : List Bool} (hl : B.length ≤ 12) : manNm ∉ (scF B G).map (·.1) := fun hm => by
 obtain ⟨p, hp, he⟩ := List.mem_map.1 hm
 obtain ⟨j, hj⟩ := List.getElem?_of_mem hp
 have hji : j < B.length := by have := (List.getElem?_eq_some_iff.1 hj).1; rw [scF_len] at this; omega
 obtain ⟨b', _, rfl⟩ := scF_get hj
 dsimp only at he
 rw [scNm] at he
 exact (scName j _ (by omega)).2 he
theorem take_slice {α : Type} {R : World → Value → α → Prop} {w : World} {A : Option Addr} {n c : Nat} {L : List α} (h : SliceOf R w (.slice A n c) L) (k : Nat) : SliceOf R w (.slice A (L.take k).length c) (L.take k) := by
 obtain ⟨h1, h2, h3⟩ := h.len
 refine SliceOf.mk rfl (by rw [List.length_take]; omega) h3 fun i x hx => ?_
 refine h.get (L := L) ?_
 have hi := (List.getElem?_eq_some_iff.1 hx).1
 rw [List.length_take] at hi
 rw [List.getElem?_take_of_lt (by omega)] at hx
 exact hx
theorem Half.more {s : FsM} {calls : Int} {u u' n n' : Nat} {mb : List UInt8} {F : List (Nm × List UInt8)} (h : Half s calls u n mb F) (hu : u ≤ u') (hn : n ≤ n') : Half s calls u' n' mb F :=
 ⟨⟨h.mul.room, h.mul.calls, h.mul.fail, Nat.le_trans h.mul.used hu, Nat.le_trans h.mul.few hn, h.mul.up, h.mul.lup, h.mul.inj, h.mul.bnd⟩, h.man, h.has, h.names⟩
end Go.Vc
namespace Go.Proofs.YtiadjkjlifnopaaGreatDoor.Tryz
open Go Go.Vc
theorem fsO_step {w0 w w' : World} {g : Nat} {s : FsM} {p : FsP} (x : FsO w0 w g s p) {r : FsM × Int} {v : Value} (h : FsDone w g p r v w') : v = .int .i64 r.2 ∧ Chg (p.fp g) w w' ∧ ∃ p', FsO w0 w' g r.1 p' ∧ Grows w g p p' := by
 obtain ⟨h1, h2, p', h3, h4⟩ := h
 exact ⟨h2, h1, p', ⟨x.chgFp h1, h3, fun k hk => by
  rcases h4 k hk with h | h
  ·exact x.fresh k h
  ·have := x.chg.size; omega⟩, h4⟩
set_option maxHeartbeats 16000000 in
theorem made_has (A : Option Addr) (n c : Nat) (files : List (List UInt8)) (Bg : Option Addr) (m d : Nat) (G : List Bool) (w : World) (hf : SliceOf (SliceOf Ru8) w (.slice A n c) files) (hg : SliceOf Rbool w (.slice Bg m d) G) :
  Has Tryz.prog 12 #[.slice A n c, .slice Bg m d] w (fun v w' => ∃ g gm vo s p st u mb, v = .tuple #[ptrV g, .pointer (some ⟨gm, 0, none⟩), vo] ∧ ManO w w' gm g s p st false ∧ st.plain = ⟨scSegs (filesB files) G, [], 50, 1⟩ ∧ Full s (8 + 3 * ((filesB files).length : Int)) u (1 + (filesB files).length) mb ⟨scSegs (filesB files) G, [], 50, 1⟩ (scF (filesB files) G) ∧ u ≤ 110000 ∧ mb.length ≤ 110000 ∧ Firm (gm :: p.fp g) w' (fun w => SliceOf (SliceOf Ru8) w vo (filesB files))) := by
 obtain ⟨rfl, hf1, hf2⟩ := hf.len
 obtain ⟨rfl, hg1, hg2⟩ := hg.len
 unfold maxLen at hf2 hg2
 have hBl := filesB_len files
 have hB12 : (filesB files).length ≤ 12 := by omega
 have hB300 : ∀ b ∈ filesB files, b.length ≤ 300 := fun b hb => filesB_le hb
 refine enter Tryz.func12 rfl rfl (by decide) rfl (e := [(0, .slice A files.length c), (1, .slice Bg G.length d)]) ⟨rfl, rfl, trivial⟩ ?_
 refine run ?_
 refine go T 9 rfl ?_
 refine o1 rfl ?_
 refine op_call rfl rfl rfl (newO_has 1048576 w) ?_
 rintro _ w1 ⟨g, p1, rfl, x1⟩
 unfold ptrV
 refine go T 6 rfl ?_
 refine o1 rfl ?_
 refine op_call rfl rfl rfl (createNew_has x1) ?_
 rintro _ w2 ⟨gm, p2, s2, rfl, _, x2, m2, _⟩
 have hh2 := half_one m2.one m2.last
 have hm0 : (encE man0).1.length ≤ 60 := man0_len
 have hfile := m2.file
 have hmok := m2.ok
 generalize (encE man0).1 = mb at *
 clear m2 x1
 refine go T 11 rfl ?_
 refine neF rfl rfl rfl rfl (by omega) ?_
 refine go T 7 rfl ?_
 refine o1 rfl (op_build T rfl rfl rfl rfl rfl rfl ?_)
 refine o1 rfl ?_
 refine op_alloc T rfl rfl (fun g10 w3 hs3 hc3 h10 => ?_)
 have hs3 : w2.heap.size ≤ g10 := hs3
 refine op0 rfl rfl ?_
 refine op_store_agg T rfl rfl rfl rfl rfl rfl h10 (by exact Nat.le_of_ble_eq_true rfl) (fun w4 hc4 h10n _ => ?_)
 replace h10 : Blk w4 g10 49 [.int .i64 50, .int .i64 0, .slice none 0 0, .slice none 0 0, .slice none 0 0, .slice none 0 0] := h10n
 clear h10n
 have hc24 : Chg [] w2 w4 := hc3.trans hc4 (fun k hk hlt => by simp at hk; omega)
 have hn10 : g10 ∉ gm :: p2.fp g := fun h => by
  rcases List.mem_cons.1 h with h | h
  ·have := x2.lt; omega
  ·have := x2.fs.at_.lt _ h; omega
 have h10w : w.heap.size ≤ g10 := by have := x2.fs.chg.size; omega
 have x4 := x2.keep0 hc24
 clear hc3 hc4
 refine go T 14 rfl ?_
 refine W_loop (σ := Nat × FsM × FsP × Value × Value × List Value) (fun t => [(0, .slice A files.length c), (1, .slice Bg G.length d), (7, .pointer (some ⟨g, 0, none⟩)), (8, .pointer (some ⟨gm, 0, none⟩)), (10, .pointer (some ⟨g10, 0, none⟩)), (11, t.2.2.2.2.1), (12, .int .i64 (t.1 : Int))])
  (fun t w' => t.1 ≤ (filesB files).length ∧ ManO w w' gm g t.2.1 t.2.2.1 stM0 false ∧ Half t.2.1 (5 + 3 * (t.1 : Int)) (60 + 300 * t.1) (1 + t.1) mb ((scF (filesB files) G).take t.1) ∧ g10 ∉ gm :: t.2.2.1.fp g ∧ Blk w' g10 49 [.int .i64 50, .int .i64 0, t.2.2.2.1, .slice none 0 0, .slice none 0 0, .slice none 0 0]
   ∧ Own w' 26 6 t.2.2.2.1 ((scSegs (filesB files) G).take t.1).length (((scSegs (filesB files) G).take t.1).flatMap segL) ∧ (∀ k, t.2.2.2.1.ownBlock = some k → w.heap.size ≤ k ∧ k ∉ gm :: t.2.2.1.fp g)
   ∧ Own w' 51 1 t.2.2.2.2.1 t.2.2.2.2.2.length (t.2.2.2.2.2.map id) ∧ (∀ k, t.2.2.2.2.1.ownBlock = some k → w.heap.size ≤ k ∧ k ∉ gm :: t.2.2.1.fp g) ∧ t.2.2.2.2.2.length = t.1 ∧ ∀ (j : Nat) (b : List UInt8) (u : Value), (filesB files)[j]? = some b → t.2.2.2.2.2[j]? = some u → u.oneCell' = true ∧ ∀ w'', Chg [] w w'' → SliceOf Ru8 w'' u b)
  (fun t => (filesB files).length - t.1) (0, s2, p2, .slice none 0 0, .slice none 0 0, []) ⟨rfl, rfl, rfl, rfl, rfl, rfl, rfl, trivial⟩ ⟨Nat.zero_le _, x4, hh2.more (by dsimp only; omega) (Nat.le_refl _), hn10, h10, Own.nil _ _ _, fun k hk => by simp [Value.ownBlock] at hk, Own.nil _ _ _, fun k hk => by simp [Value.ownBlock] at hk, rfl, fun j b u _ h => (by have h : ([] : List Value)[j]? = some u := h; rw [List.getElem?_nil] at h; cases h)⟩ ?_
 clear x2 x4 hh2 hn10 h10 hc24
 rintro ⟨i, s, p, va, vo, us⟩ w5 ⟨hi, x, hH, hn10, h10, hO, hOf, hV, hVf, hul, hur⟩
 dsimp only at hi x hH hn10 h10 hO hOf hV hVf hul hur ⊢
 by_cases hlt : i < (filesB files).length
 ·have hi12 : i < 12 := by omega
  have hif : i < files.length := by omega
  have hx := List.getElem?_eq_getElem hif
  have hBx := filesB_get hx hi12
  have hwc := x.fs.chg
  obtain ⟨ad, u, rfl, hu0, hur0⟩ := hf.get hx
  have hu := hwc.cell0 hu0
  have hur1 : ∀ w'', Chg [] w w'' → SliceOf Ru8 w'' u files[i] := fun w'' h => SliceOf.kept Ru8.kept _ _ _ _ h hur0
  generalize files[i] = fb at *
  obtain ⟨C, k, rfl, hk1, hk2⟩ := hur0.form
  refine run ?_
  refine go T 6 rfl ?_
  refine ltT rfl rfl rfl rfl (by omega) ?_
  refine go T 2 rfl ?_
  refine ltT rfl rfl rfl rfl (by omega) ?_
  refine go T 12 rfl ?_
  refine o1 rfl (op_index_nat T rfl rfl rfl rfl rfl rfl (by omega) ?_)
  refine o1 rfl (op_load T rfl rfl rfl rfl (by assumption) ?_)
  refine o1 rfl ?_
  refine op_call rfl rfl rfl (shortB_has C fb.length k fb 300 w5 (hur1 w5 hwc) (by decide)) ?_
  rintro _ w5 ⟨rfl, rfl⟩
  have hrb : ∀ w'', Chg [] w w'' → SliceOf Ru8 w'' (.slice C (fb.take 300).length k) (fb.take 300) := fun w'' h => by
   exact take_slice (hur1 w'' h) 300
  generalize fb.take 300 = b at *
  clear hur1 hur0 hk1 hk2 hu0 hu hx
  refine go T 4 rfl ?_
  refine W_walk 19 [] fol (by kernel_rfl) (by kernel_rfl) ?_
  refine Walk.plain rfl (by intro val w_ hR hp; exact op_move rfl rfl ⟨Chg.refl _ _, rfl⟩) ?_; dsimp only [na1, na2]
  refine Walk.plain rfl (by intro val w_ hR hp; exact op_add rfl rfl rfl (wrap_i64_in (by omega) (by omega)) ⟨Chg.refl _ _, rfl⟩) ?_; dsimp only [na1, na2]
  refine Walk.plain rfl (by intro val w_ hR hp; exact op_move rfl rfl ⟨Chg.refl _ _, rfl⟩) ?_; dsimp only [na1, na2]
  refine Walk.plain rfl (by intro val w_ hR hp; exact op_move rfl rfl ⟨Chg.refl _ _, rfl⟩) ?_; dsimp only [na1, na2]
  refine Walk.plain rfl (by intro val w_ hR hp; exact op_len_slice T rfl rfl rfl rfl ⟨Chg.refl _ _, rfl⟩) ?_; dsimp only [na1, na2]
  by_cases hgi : i < G.length
  ·have hgx := List.getElem?_eq_getElem hgi
   obtain ⟨adg, ug, rfl, hug, hugr⟩ := (SliceOf.kept (fun _ _ _ _ _ h => h) _ _ _ _ hwc hg).get hgx
   obtain ⟨gv, hgv⟩ : ∃ gv, gv = G[i] := ⟨_, rfl⟩
   obtain rfl : ug = .bool gv := by have h : ug = .bool G[i] := hugr; rw [h, hgv]
   have hsl : (!gv) = slOf G i := by unfold slOf; rw [hgx, hgv]; rfl
   clear hgx hgv
   cases gv with
   | true =>
    replace hsl : false = slOf G i := hsl
    refine Walk.plain rfl (by intro val w_ hR hp; exact op_lss rfl rfl rfl (fun hcmp => ⟨Chg.refl _ _, rfl⟩) (fun hcmp => False.elim (by omega))) ?_; dsimp only [na1, na2]
    refine Walk.plain rfl (by intro val w_ hR hp; exact op_move rfl rfl ⟨Chg.refl _ _, rfl⟩) ?_; dsimp only [na1, na2]
    refine Walk.guardT rfl rfl rfl (fun _ => rfl) (by intro val w_ hR hp; exact op_move rfl rfl ⟨Chg.refl _ _, rfl⟩) ?_; dsimp only [na1, na2]
    refine Walk.guardT rfl rfl rfl (fun _ => rfl) (by intro val w_ hR hp; exact op_move rfl rfl ⟨Chg.refl _ _, rfl⟩) ?_; dsimp only [na1, na2]
    refine Walk.guardT rfl rfl rfl (fun _ => rfl) (by intro val w_ hR hp; exact op_index_nat T rfl rfl rfl rfl rfl rfl (by omega) ⟨Chg.refl _ _, rfl⟩) ?_; dsimp only [na1, na2]
    refine Walk.guardT rfl rfl rfl (fun _ => rfl) (by intro val w_ hR hp; exact op_load T rfl rfl rfl rfl (hR.cell0 (by assumption)) ⟨Chg.refl _ _, rfl⟩) ?_; dsimp only [na1, na2]
    refine Walk.plain rfl (by intro val w_ hR hp; exact op_pick rfl rfl rfl rfl ⟨Chg.refl _ _, rfl⟩) ?_; dsimp only [na1, na2]
    refine Walk.plain rfl (by intro val w_ hR hp; exact op_notT rfl rfl ⟨Chg.refl _ _, rfl⟩) ?_; dsimp only [na1, na2]
    refine Walk.plain rfl (by intro val w_ hR hp; exact op_move rfl rfl ⟨Chg.refl _ _, rfl⟩) ?_; dsimp only [na1, na2]
    refine Walk.plain rfl (by intro val w_ hR hp; exact op_len_slice T rfl rfl rfl rfl ⟨Chg.refl _ _, rfl⟩) ?_; dsimp only [na1, na2]
    refine Walk.plain rfl (by intro val w_ hR hp; exact op_move rfl rfl ⟨Chg.refl _ _, rfl⟩) ?_; dsimp only [na1, na2]
    refine Walk.plain (v := .int .u32 ((crcN b : Nat) : Int)) rfl (by intro val w_ hR hp; exact op_call rfl rfl rfl (sumN_has C b.length k b w_ (hrb w_ (hwc.trans' hR))) (fun v w' h => h)) ?_; dsimp only [na1, na2]
    refine Walk.plain (v := .agg #[.int .i64 ((i : Int) + 1), .bool false, .int .i64 0, .int .i64 0, .int .i64 (b.length : Int), .int .u32 ((crcN b : Nat) : Int)]) rfl (by intro val w_ hR hp; exact op_build T rfl rfl rfl rfl rfl rfl ⟨Chg.refl _ _, rfl⟩) ?_; dsimp only [na1, na2]
    refine Walk.rel (fun v w' => ∃ g14, v = .pointer (some ⟨g14, 0, none⟩) ∧ w5.heap.size ≤ g14 ∧ Blk w' g14 26 [.int .i64 0, .bool false, .int .i64 0, .int .i64 0, .int .i64 0, .int .u32 0]) rfl (fun v w w' h hab => let ⟨g14, h1, h2, h3⟩ := h; ⟨g14, h1, h2, h3.keep0 hab⟩) (by intro val w_ hR hp; exact op_alloc T rfl rfl (fun g14 w9 hs9 hc9 h14 => ⟨hc9, g14, rfl, by have := hR.size; omega, h14⟩)) ?_; dsimp only [na1, na2]
    refine Walk.fin ?_
    intro val w6 hc6 hp
    obtain ⟨g14, hv14, hs14, h14⟩ : ∃ g14, val 18 = .pointer (some ⟨g14, 0, none⟩) ∧ w5.heap.size ≤ g14 ∧ Blk w6 g14 26 [.int .i64 0, .bool false, .int .i64 0, .int .i64 0, .int .i64 0, .int .u32 0] := hp 18 (by omega) _ _ rfl rfl
    clear hp
    obtain ⟨y, hy⟩ : ∃ y, y = scSeg i b (slOf G i) := ⟨_, rfl⟩
    have hsy : (scSegs (filesB files) G)[i]? = some y := by unfold scSegs; rw [List.getElem?_mapIdx, hBx, hy]; rfl
    have hFy : (scF (filesB files) G)[i]? = some (fileNm y, b) := by unfold scF; rw [List.getElem?_mapIdx, hBx, hy]; rfl
    have hnew : fileNm y ∉ ((scF (filesB files) G).take i).map (·.1) := by rw [hy]; exact scF_new hB12 hlt
    refine WL_sub (e' := [(0, .slice (some ad) files.length c), (1, .slice (some adg) G.length d), (7, .pointer (some ⟨g, 0, none⟩)), (8, .pointer (some ⟨gm, 0, none⟩)), (10, .pointer (some ⟨g10, 0, none⟩)), (11, vo), (12, .int .i64 (i : Int)), (13, .slice C b.length k), (14, .pointer (some ⟨g14, 0, none⟩)), (57, .agg #[.int .i64 ((i : Int) + 1), .bool false, .int .i64 0, .int .i64 0, .int .i64 (b.length : Int), .int .u32 ((crcN b : Nat) : Int)])]) ⟨rfl, rfl, rfl, rfl, rfl, rfl, rfl, rfl, congrArg some hv14, rfl, trivial⟩ ?_
    refine runL ?_
    refine op0 rfl rfl ?_
    refine op_store_agg T rfl rfl rfl rfl rfl rfl h14 (by exact Nat.le_of_ble_eq_true rfl) (fun w7 hc7 h14n _ => ?_)
    replace h14 : Blk w7 g14 26 [.int .i64 ((i : Int) + 1), .bool false, .int .i64 0, .int .i64 0, .int .i64 (b.length : Int), .int .u32 ((crcN b : Nat) : Int)] := h14n
    clear h14n
    rw [← hsl] at hy
    have hc57 : Chg [] w5 w7 := hc6.trans hc7 (fun k hk hlt => by simp at hk; omega)
    have x7 := x.keep0 hc57
    have h107 := h10.keep0 hc57
    have hO7 := hO.keep0 hc57
    have hV7 := hV.keep0 hc57
    have hz57 := hc57.size
    have hOlt : ∀ k, va.ownBlock = some k → k < w5.heap.size := fun k hk => hO.lt hk
    have hVlt : ∀ k, vo.ownBlock = some k → k < w5.heap.size := fun k hk => hV.lt hk
    have h10lt := h10.lt
    have hfp5 := x.fs.at_.lt
    have hsw := hwc.size
    have hLl : ((scSegs (filesB files) G).take i).length ≤ 12 := by rw [List.length_take, scSegs_len]; omega
    have hsn : (scSegs (filesB files) G).take (i + 1) = (scSegs (filesB files) G).take i ++ [y] := by rw [List.take_add_one, hsy]; rfl
    have hFn : (scF (filesB files) G).take (i + 1) = (scF (filesB files) G).take i ++ [(fileNm y, b)] := by rw [List.take_add_one, hFy]; rfl
    have hny : fileNm y = dig2 (i + 1) ++ endRaw := by rw [hy, scNm]; rfl
    rw [hny] at hnew hFn
    have hmay := scName i false hi12
    change mayM (dig2 (i + 1) ++ endRaw) = true ∧ dig2 (i + 1) ++ endRaw ≠ manNm at hmay
    have hml : (dig2 (i + 1) ++ endRaw).length ≤ maxLen := by have := mayM_len hmay.1; unfold maxLen; omega
    have hbl : b.length ≤ 300 := hB300 b (List.mem_of_getElem? hBx)
    have hcl5 := hH.mul.calls
    obtain ⟨_, _, _, hH'⟩ := half_put (b := b) hH hmay.1 hmay.2 hnew (by omega) (by omega)
    have hn1 := name23_has (i + 1) endRaw
    have hn2 := name23_has (i + 1) endSeg
    rw [show ((i + 1 : Nat) : Int) = (i : Int) + 1 from by omega] at hn1 hn2
    clear hc6 hc7 h10 hO hV hsy hFy hny
    generalize (scSegs (filesB files) G).take i = Li at *
    generalize (scF (filesB files) G).take i = Fi at *
    obtain ⟨nm, hnm⟩ : ∃ nm, nm = dig2 (i + 1) ++ endRaw := ⟨_, rfl⟩
    rw [← hnm] at hnew hFn hmay hml hH'
    refine go T 5 rfl ?_
    refine ldB T h107 rfl rfl rfl rfl rfl rfl ?_
    refine o1 rfl (op_load_agg T rfl rfl rfl rfl h14 (by exact Nat.le_of_ble_eq_true rfl) (by exact rfl) ?_)
    refine o1 rfl ?_
    refine op_buildSlice T rfl rfl rfl rfl rfl rfl rfl (fun gb w8 hs8 hc8 h8 => ?_)
    have h8 : Blk w8 gb 26 (segL y) := by rw [hy]; exact h8
    have hO8 := hO7.keep0 hc8
    have h108 := h107.keep0 hc8
    have hz8 := hc8.size
    refine o1 rfl ?_
    refine op_appendK T segL_len rfl rfl rfl rfl rfl rfl rfl rfl rfl rfl hO8 h8 (segL_one _) (by omega) (fun va' w9 hO9 hc9 hb9 => ?_)
    have h109 := h108.keep hc9 (out_of h108 hO8 (by decide))
    have h149 := (h14.keep0 hc8).keep hc9 (fun hm => by have := hOlt g14 (by simpa using hm); omega)
    have x9 := (x7.keep0 hc8).beside hc9 (fun k hk => (hOf k (by simpa using hk)).2) (fun k hk => (hOf k (by simpa using hk)).1)
    have hV9 := (hV7.keep0 hc8).keep hc9 (out_own (hV7.keep0 hc8) hO8 (by decide))
    have hz9 := hc9.size
    have hva' : ∀ k, va'.ownBlock = some k → w.heap.size ≤ k ∧ k ∉ gm :: p.fp g ∧ k ≠ g10 ∧ k < w9.heap.size := fun k hk => by
     refine ⟨?_, ?_, fun e => ?_, hO9.lt hk⟩
     ·rcases hb9 with h1 | ⟨k', h1, h2⟩
      ·exact (hOf k (by rw [← h1]; exact hk)).1
      ·rw [h1] at hk; injection hk with hk; omega
     ·rcases hb9 with h1 | ⟨k', h1, h2⟩
      ·exact (hOf k (by rw [← h1]; exact hk)).2
      ·rw [h1] at hk; injection hk with hk
       intro hm
       rcases List.mem_cons.1 hm with hm | hm
       ·have := x.lt; omega
       ·have := hfp5 k hm; omega
     ·subst e; exact out_of h109 hO9 (by decide) (by rw [hk]; simp)
    refine go T 1 rfl ?_
    refine op0 rfl rfl ?_
    refine op_store T rfl rfl rfl rfl rfl (own_one hO9) h109 (by simp) (fun w10 hc10 h1010 _ => ?_)
    replace h1010 : Blk w10 g10 49 [.int .i64 50, .int .i64 0, va', .slice none 0 0, .slice none 0 0, .slice none 0 0] := h1010
    have h1410 := h149.keep hc10 (by simp; omega)
    have x10 := x9.beside hc10 (fun k hk => by rw [List.mem_singleton.1 hk]; exact hn10) (fun k hk => by rw [List.mem_singleton.1 hk]; exact h10w)
    have hO10 := hO9.keep hc10 (fun k hk hm => (hva' k hk).2.2.1 (List.mem_singleton.1 hm))
    have hV10 := hV9.keep hc10 (fun k hk hm => by rw [List.mem_singleton.1 hm] at hk; exact out_of h109 hV9 (by decide) (by rw [hk]; simp))
    have hz10 := hc10.size
    clear x7 x9 hO7 hO8 hO9 hV7 hV9 h107 h108 h109 h149 h14 hc8 hc9 hc10 h8
    refine go T 5 rfl ?_
    refine ldB T h1410 rfl rfl rfl rfl rfl rfl ?_
    refine o1 rfl ?_
    refine op_call rfl rfl rfl (hn1 w10 (by omega) (by decide)) ?_
    rintro _ w11 ⟨hc11, rfl⟩
    have h1411 := h1410.keep0 hc11
    refine go T 7 rfl ?_
    refine ldB T h1411 rfl rfl rfl rfl rfl rfl ?_
    refine go T 9 rfl ?_
    refine o1 rfl ?_
    rw [← hnm]
    have hc1012 : Chg [] w10 w11 := hc11
    have x12 := x10.keep0 hc1012
    have hz12 := hc1012.size
    have m13 := (mul_create hH.mul hmay.1 (by omega)).2.1
    have m13h := (mul_create hH.mul hmay.1 (by omega)).2.2.1
    have m14 := (mul_append (c := b) m13 m13h (by omega)).2.1
    have hcl13 := m13.calls
    have hcl14 := m14.calls
    have m15 := hH'.mul.calls
    clear m13h
    refine op_call rfl rfl rfl (create_has g s p nm w11 x12.fs.at_ hml (by omega)) ?_
    rintro v13 w13 hd13
    obtain ⟨rfl, hc13, p13, f13, gr13⟩ := fsO_step x12.fs hd13
    refine go T 7 rfl ?_
    refine o1 rfl ?_
    refine op_call rfl rfl rfl (append_has g _ p13 nm C b.length k b w13 f13.at_ (fun w'' h => hrb w'' (f13.chgFp h)) (by omega) (by omega)) ?_
    rintro v14 w14 hd14
    obtain ⟨rfl, hc14, p14, f14, gr14⟩ := fsO_step f13 hd14
    refine go T 6 rfl ?_
    refine o1 rfl ?_
    refine op_call rfl rfl rfl (sync_has g _ p14 nm w14 f14.at_ (by omega)) ?_
    rintro v15 w15 hd15
    obtain ⟨rfl, hc15, p15, f15, gr15⟩ := fsO_step f14 hd15
    have hcT : Chg (p.fp g) w11 w15 := (hc13.fps gr13 hc14).fps (gr13.trans gr14 hc13.size) hc15
    have grT : Grows w11 g p p15 := (gr13.trans gr14 hc13.size).trans gr15 (Nat.le_trans hc13.size hc14.size)
    have x15 := x12.step hcT f15 grT
    have hout : ∀ k, k < w10.heap.size → k ∉ gm :: p.fp g → k ∉ gm :: p15.fp g := fun k h1 h2 hm => by
     rcases List.mem_cons.1 hm with hm | hm
     ·exact h2 (by simp [hm])
     ·rcases grT k hm with h3 | h3
      ·exact h2 (by simp [h3])
      ·omega
    have hin : ∀ k ∈ p.fp g, k ∈ gm :: p.fp g := fun k hk => by simp [hk]
    have hO15 := (hO10.keep0 hc1012).keep hcT (fun k hk hm => (hva' k hk).2.1 (hin k hm))
    have hV15 := (hV10.keep0 hc1012).keep hcT (fun k hk hm => (hVf k hk).2 (hin k hm))
    have h1015 := (h1010.keep0 hc1012).keep hcT (fun hm => hn10 (hin _ hm))
    have hz15 := hcT.size
    clear hd13 hd14 hd15 hc13 hc14 hc15 f13 f14 f15 gr13 gr14 gr15 m13 m14 x12 x10 hO10 hV10 h1010 h1411 h1410 hcl13 hcl14
    generalize (syncM (appendM (createM s nm).1 nm b).1 nm).1 = s15 at *
    refine go T 5 rfl ?_
    refine o1 rfl ?_
    refine op_buildSlice T rfl rfl rfl rfl rfl rfl rfl (fun gc w16 hs16 hc16 h16 => ?_)
    have h16 : Blk w16 gc 51 [id (.slice C b.length k)] := h16
    have hV16 := hV15.keep0 hc16
    have hz16 := hc16.size
    refine o1 rfl ?_
    refine op_append1 T (f := id) rfl rfl rfl rfl rfl rfl rfl rfl rfl hV16 h16 rfl (by omega) (fun vo' w17 hV17 hc17 hb17 => ?_)
    have hvo : ∀ k ∈ vo.ownBlock.toList, w.heap.size ≤ k ∧ k ∉ gm :: p15.fp g ∧ k < w5.heap.size := fun k hk => by
     have hk : vo.ownBlock = some k := by simpa using hk
     exact ⟨(hVf k hk).1, hout k (by have := hVlt k hk; omega) (hVf k hk).2, hVlt k hk⟩
    have x17 := (x15.keep0 hc16).beside hc17 (fun k hk => (hvo k hk).2.1) (fun k hk => (hvo k hk).1)
    have hO17 := (hO15.keep0 hc16).keep hc17 (out_own (hO15.keep0 hc16) hV16 (by decide))
    have h1017 := (h1015.keep0 hc16).keep hc17 (out_of (h1015.keep0 hc16) hV16 (by decide))
    refine go T 6 rfl ?_
    refine adI rfl rfl rfl rfl (by omega) (by omega) ?_
    refine go T 2 rfl ?_
    refine Round_n (i + 1, s15, p15, va', vo', us ++ [.slice C b.length k]) ⟨rfl, rfl, rfl, rfl, rfl, rfl, rfl, trivial⟩ ⟨by dsimp only; omega, x17, ?_, hout _ (by omega) hn10, h1017, ?_, fun k hk => ?_, hV17, fun k hk => ?_, ?_, fun j b' u' hj hu' => ?_⟩ (by dsimp only; omega)
    ·dsimp only
     rw [hFn, show (5 : Int) + 3 * ((i + 1 : Nat) : Int) = 5 + 3 * (i : Int) + 3 from by omega]
     exact hH'.more (by omega) (by omega)
    ·dsimp only; rw [hsn]; exact hO17
    ·exact ⟨(hva' k hk).1, hout k (by have := (hva' k hk).2.2.2; omega) (hva' k hk).2.1⟩
    ·dsimp only at hk ⊢
     rcases hb17 with h1 | ⟨k', h1, h2⟩
     ·have := hvo k (by rw [← h1]; simpa using hk); exact ⟨this.1, this.2.1⟩
     ·rw [h1] at hk; injection hk with hk
      refine ⟨by omega, fun hm => ?_⟩
      rcases List.mem_cons.1 hm with hm | hm
      ·have := x15.lt; omega
      ·have := x15.fs.at_.lt k hm; omega
    ·dsimp only; rw [List.length_append, hul]; rfl
    ·dsimp only at hj hu'
     by_cases hji : j < us.length
     ·rw [List.getElem?_append_left hji] at hu'
      exact hur j b' u' hj hu'
     ·have hj2 : j = i := by have := (List.getElem?_eq_some_iff.1 hu').1; rw [List.length_append, List.length_singleton] at this; omega
      subst hj2
      rw [hBx] at hj
      injection hj with hj
      rw [List.getElem?_append_right (by omega), show j - us.length = 0 from by omega] at hu'
      injection hu' with hu'
      subst hj; subst hu'
      exact ⟨rfl, hrb⟩
   | false =>
    replace hsl : true = slOf G i := hsl
    refine Walk.plain rfl (by intro val w_ hR hp; exact op_lss rfl rfl rfl (fun hcmp => ⟨Chg.refl _ _, rfl⟩) (fun hcmp => False.elim (by omega))) ?_; dsimp only [na1, na2]
    refine Walk.plain rfl (by intro val w_ hR hp; exact op_move rfl rfl ⟨Chg.refl _ _, rfl⟩) ?_; dsimp only [na1, na2]
    refine Walk.guardT rfl rfl rfl (fun _ => rfl) (by intro val w_ hR hp; exact op_move rfl rfl ⟨Chg.refl _ _, rfl⟩) ?_; dsimp only [na1, na2]
    refine Walk.guardT rfl rfl rfl (fun _ => rfl) (by intro val w_ hR hp; exact op_move rfl rfl ⟨Chg.refl _ _, rfl⟩) ?_; dsimp only [na1, na2]
    refine Walk.guardT rfl rfl rfl (fun _ => rfl) (by intro val w_ hR hp; exact op_index_nat T rfl rfl rfl rfl rfl rfl (by omega) ⟨Chg.refl _ _, rfl⟩) ?_; dsimp only [na1, na2]
    refine Walk.guardT rfl rfl rfl (fun _ => rfl) (by intro val w_ hR hp; exact op_load T rfl rfl rfl rfl (hR.cell0 (by assumption)) ⟨Chg.refl _ _, rfl⟩) ?_; dsimp only [na1, na2]
    refine Walk.plain rfl (by intro val w_ hR hp; exact op_pick rfl rfl rfl rfl ⟨Chg.refl _ _, rfl⟩) ?_; dsimp only [na1, na2]
    refine Walk.plain rfl (by intro val w_ hR hp; exact op_notF rfl rfl ⟨Chg.refl _ _, rfl⟩) ?_; dsimp only [na1, na2]
    refine Walk.plain rfl (by intro val w_ hR hp; exact op_move rfl rfl ⟨Chg.refl _ _, rfl⟩) ?_; dsimp only [na1, na2]
    refine Walk.plain rfl (by intro val w_ hR hp; exact op_len_slice T rfl rfl rfl rfl ⟨Chg.refl _ _, rfl⟩) ?_; dsimp only [na1, na2]
    refine Walk.plain rfl (by intro val w_ hR hp; exact op_move rfl rfl ⟨Chg.refl _ _, rfl⟩) ?_; dsimp only [na1, na2]
    refine Walk.plain (v := .int .u32 ((crcN b : Nat) : Int)) rfl (by intro val w_ hR hp; exact op_call rfl rfl rfl (sumN_has C b.length k b w_ (hrb w_ (hwc.trans' hR))) (fun v w' h => h)) ?_; dsimp only [na1, na2]
    refine Walk.plain (v := .agg #[.int .i64 ((i : Int) + 1), .bool true, .int .i64 0, .int .i64 0, .int .i64 (b.length : Int), .int .u32 ((crcN b : Nat) : Int)]) rfl (by intro val w_ hR hp; exact op_build T rfl rfl rfl rfl rfl rfl ⟨Chg.refl _ _, rfl⟩) ?_; dsimp only [na1, na2]
    refine Walk.rel (fun v w' => ∃ g14, v = .pointer (some ⟨g14, 0, none⟩) ∧ w5.heap.size ≤ g14 ∧ Blk w' g14 26 [.int .i64 0, .bool false, .int .i64 0, .int .i64 0, .int .i64 0, .int .u32 0]) rfl (fun v w w' h hab => let ⟨g14, h1, h2, h3⟩ := h; ⟨g14, h1, h2, h3.keep0 hab⟩) (by intro val w_ hR hp; exact op_alloc T rfl rfl (fun g14 w9 hs9 hc9 h14 => ⟨hc9, g14, rfl, by have := hR.size; omega, h14⟩)) ?_; dsimp only [na1, na2]
    refine Walk.fin ?_
    intro val w6 hc6 hp
    obtain ⟨g14, hv14, hs14, h14⟩ : ∃ g14, val 18 = .pointer (some ⟨g14, 0, none⟩) ∧ w5.heap.size ≤ g14 ∧ Blk w6 g14 26 [.int .i64 0, .bool false, .int .i64 0, .int .i64 0, .int .i64 0, .int .u32 0] := hp 18 (by omega) _ _ rfl rfl
    clear hp
    obtain ⟨y, hy⟩ : ∃ y, y = scSeg i b (slOf G i) := ⟨_, rfl⟩
    have hsy : (scSegs (filesB files) G)[i]? = some y := by unfold scSegs; rw [List.getElem?_mapIdx, hBx, hy]; rfl
    have hFy : (scF (filesB files) G)[i]? = some (fileNm y, b) := by unfold scF; rw [List.getElem?_mapIdx, hBx, hy]; rfl
    have hnew : fileNm y ∉ ((scF (filesB files) G).take i).map (·.1) := by rw [hy]; exact scF_new hB12 hlt
    refine WL_sub (e' := [(0, .slice (some ad) files.length c), (1, .slice (some adg) G.length d), (7, .pointer (some ⟨g, 0, none⟩)), (8, .pointer (some ⟨gm, 0, none⟩)), (10, .pointer (some ⟨g10, 0, none⟩)), (11, vo), (12, .int .i64 (i : Int)), (13, .slice C b.length k), (14, .pointer (some ⟨g14, 0, none⟩)), (57, .agg #[.int .i64 ((i : Int) + 1), .bool true, .int .i64 0, .int .i64 0, .int .i64 (b.length : Int), .int .u32 ((crcN b : Nat) : Int)])]) ⟨rfl, rfl, rfl, rfl, rfl, rfl, rfl, rfl, congrArg some hv14, rfl, trivial⟩ ?_
    refine runL ?_
    refine op0 rfl rfl ?_
    refine op_store_agg T rfl rfl rfl rfl rfl rfl h14 (by exact Nat.le_of_ble_eq_true rfl) (fun w7 hc7 h14n _ => ?_)
    replace h14 : Blk w7 g14 26 [.int .i64 ((i : Int) + 1), .bool true, .int .i64 0, .int .i64 0, .int .i64 (b.length : Int), .int .u32 ((crcN b : Nat) : Int)] := h14n
    clear h14n
    rw [← hsl] at hy
    have hc57 : Chg [] w5 w7 := hc6.trans hc7 (fun k hk hlt => by simp at hk; omega)
    have x7 := x.keep0 hc57
    have h107 := h10.keep0 hc57
    have hO7 := hO.keep0 hc57
    have hV7 := hV.keep0 hc57
    have hz57 := hc57.size
    have hOlt : ∀ k, va.ownBlock = some k → k < w5.heap.size := fun k hk => hO.lt hk
    have hVlt : ∀ k, vo.ownBlock = some k → k < w5.heap.size := fun k hk => hV.lt hk
    have h10lt := h10.lt
    have hfp5 := x.fs.at_.lt
    have hsw := hwc.size
    have hLl : ((scSegs (filesB files) G).take i).length ≤ 12 := by rw [List.length_take, scSegs_len]; omega
    have hsn : (scSegs (filesB files) G).take (i + 1) = (scSegs (filesB files) G).take i ++ [y] := by rw [List.take_add_one, hsy]; rfl
    have hFn : (scF (filesB files) G).take (i + 1) = (scF (filesB files) G).take i ++ [(fileNm y, b)] := by rw [List.take_add_one, hFy]; rfl
    have hny : fileNm y = dig2 (i + 1) ++ endSeg := by rw [hy, scNm]; rfl
    rw [hny] at hnew hFn
    have hmay := scName i true hi12
    change mayM (dig2 (i + 1) ++ endSeg) = true ∧ dig2 (i + 1) ++ endSeg ≠ manNm at hmay
    have hml : (dig2 (i + 1) ++ endSeg).length ≤ maxLen := by have := mayM_len hmay.1; unfold maxLen; omega
    have hbl : b.length ≤ 300 := hB300 b (List.mem_of_getElem? hBx)
    have hcl5 := hH.mul.calls
    obtain ⟨_, _, _, hH'⟩ := half_put (b := b) hH hmay.1 hmay.2 hnew (by omega) (by omega)
    have hn1 := name23_has (i + 1) endRaw
    have hn2 := name23_has (i + 1) endSeg
    rw [show ((i + 1 : Nat) : Int) = (i : Int) + 1 from by omega] at hn1 hn2
    clear hc6 hc7 h10 hO hV hsy hFy hny
    generalize (scSegs (filesB files) G).take i = Li at *
    generalize (scF (filesB files) G).take i = Fi at *
    obtain ⟨nm, hnm⟩ : ∃ nm, nm = dig2 (i + 1) ++ endSeg := ⟨_, rfl⟩
    rw [← hnm] at hnew hFn hmay hml hH'
    refine go T 5 rfl ?_
    refine ldB T h107 rfl rfl rfl rfl rfl rfl ?_
    refine o1 rfl (op_load_agg T rfl rfl rfl rfl h14 (by exact Nat.le_of_ble_eq_true rfl) (by exact rfl) ?_)
    refine o1 rfl ?_
    refine op_buildSlice T rfl rfl rfl rfl rfl rfl rfl (fun gb w8 hs8 hc8 h8 => ?_)
    have h8 : Blk w8 gb 26 (segL y) := by rw [hy]; exact h8
    have hO8 := hO7.keep0 hc8
    have h108 := h107.keep0 hc8
    have hz8 := hc8.size
    refine o1 rfl ?_
    refine op_appendK T segL_len rfl rfl rfl rfl rfl rfl rfl rfl rfl rfl hO8 h8 (segL_one _) (by omega) (fun va' w9 hO9 hc9 hb9 => ?_)
    have h109 := h108.keep hc9 (out_of h108 hO8 (by decide))
    have h149 := (h14.keep0 hc8).keep hc9 (fun hm => by have := hOlt g14 (by simpa using hm); omega)
    have x9 := (x7.keep0 hc8).beside hc9 (fun k hk => (hOf k (by simpa using hk)).2) (fun k hk => (hOf k (by simpa using hk)).1)
    have hV9 := (hV7.keep0 hc8).keep hc9 (out_own (hV7.keep0 hc8) hO8 (by decide))
    have hz9 := hc9.size
    have hva' : ∀ k, va'.ownBlock = some k → w.heap.size ≤ k ∧ k ∉ gm :: p.fp g ∧ k ≠ g10 ∧ k < w9.heap.size := fun k hk => by
     refine ⟨?_, ?_, fun e => ?_, hO9.lt hk⟩
     ·rcases hb9 with h1 | ⟨k', h1, h2⟩
      ·exact (hOf k (by rw [← h1]; exact hk)).1
      ·rw [h1] at hk; injection hk with hk; omega
     ·rcases hb9 with h1 | ⟨k', h1, h2⟩
      ·exact (hOf k (by rw [← h1]; exact hk)).2
      ·rw [h1] at hk; injection hk with hk
       intro hm
       rcases List.mem_cons.1 hm with hm | hm
       ·have := x.lt; omega
       ·have := hfp5 k hm; omega
     ·subst e; exact out_of h109 hO9 (by decide) (by rw [hk]; simp)
    refine go T 1 rfl ?_
    refine op0 rfl rfl ?_
    refine op_store T rfl rfl rfl rfl rfl (own_one hO9) h109 (by simp) (fun w10 hc10 h1010 _ => ?_)
    replace h1010 : Blk w10 g10 49 [.int .i64 50, .int .i64 0, va', .slice none 0 0, .slice none 0 0, .slice none 0 0] := h1010
    have h1410 := h149.keep hc10 (by simp; omega)
    have x10 := x9.beside hc10 (fun k hk => by rw [List.mem_singleton.1 hk]; exact hn10) (fun k hk => by rw [List.mem_singleton.1 hk]; exact h10w)
    have hO10 := hO9.keep hc10 (fun k hk hm => (hva' k hk).2.2.1 (List.mem_singleton.1 hm))
    have hV10 := hV9.keep hc10 (fun k hk hm => by rw [List.mem_singleton.1 hm] at hk; exact out_of h109 hV9 (by decide) (by rw [hk]; simp))
    have hz10 := hc10.size
    clear x7 x9 hO7 hO8 hO9 hV7 hV9 h107 h108 h109 h149 h14 hc8 hc9 hc10 h8
    refine go T 5 rfl ?_
    refine ldB T h1410 rfl rfl rfl rfl rfl rfl ?_
    refine o1 rfl ?_
    refine op_call rfl rfl rfl (hn1 w10 (by omega) (by decide)) ?_
    rintro _ w11 ⟨hc11, rfl⟩
    have h1411 := h1410.keep0 hc11
    refine go T 7 rfl ?_
    refine ldB T h1411 rfl rfl rfl rfl rfl rfl ?_
    refine go T 5 rfl ?_
    refine ldB T h1411 rfl rfl rfl rfl rfl rfl ?_
    refine o1 rfl ?_
    refine op_call rfl rfl rfl (hn2 w11 (by omega) (by decide)) ?_
    rintro _ w12 ⟨hc12, rfl⟩
    have hc1112 := hc11.trans' hc12
    refine go T 7 rfl ?_
    refine o1 rfl ?_
    rw [← hnm]
    have hc1012 : Chg [] w10 w12 := hc11.trans' hc12
    have x12 := x10.keep0 hc1012
    have hz12 := hc1012.size
    have m13 := (mul_create hH.mul hmay.1 (by omega)).2.1
    have m13h := (mul_create hH.mul hmay.1 (by omega)).2.2.1
    have m14 := (mul_append (c := b) m13 m13h (by omega)).2.1
    have hcl13 := m13.calls
    have hcl14 := m14.calls
    have m15 := hH'.mul.calls
    clear m13h
    refine op_call rfl rfl rfl (create_has g s p nm w12 x12.fs.at_ hml (by omega)) ?_
    rintro v13 w13 hd13
    obtain ⟨rfl, hc13, p13, f13, gr13⟩ := fsO_step x12.fs hd13
    refine go T 7 rfl ?_
    refine o1 rfl ?_
    refine op_call rfl rfl rfl (append_has g _ p13 nm C b.length k b w13 f13.at_ (fun w'' h => hrb w'' (f13.chgFp h)) (by omega) (by omega)) ?_
    rintro v14 w14 hd14
    obtain ⟨rfl, hc14, p14, f14, gr14⟩ := fsO_step f13 hd14
    refine go T 6 rfl ?_
    refine o1 rfl ?_
    refine op_call rfl rfl rfl (sync_has g _ p14 nm w14 f14.at_ (by omega)) ?_
    rintro v15 w15 hd15
    obtain ⟨rfl, hc15, p15, f15, gr15⟩ := fsO_step f14 hd15
    have hcT : Chg (p.fp g) w12 w15 := (hc13.fps gr13 hc14).fps (gr13.trans gr14 hc13.size) hc15
    have grT : Grows w12 g p p15 := (gr13.trans gr14 hc13.size).trans gr15 (Nat.le_trans hc13.size hc14.size)
    have x15 := x12.step hcT f15 grT
    have hout : ∀ k, k < w10.heap.size → k ∉ gm :: p.fp g → k ∉ gm :: p15.fp g := fun k h1 h2 hm => by
     rcases List.mem_cons.1 hm with hm | hm
     ·exact h2 (by simp [hm])
     ·rcases grT k hm with h3 | h3
      ·exact h2 (by simp [h3])
      ·omega
    have hin : ∀ k ∈ p.fp g, k ∈ gm :: p.fp g := fun k hk => by simp [hk]
    have hO15 := (hO10.keep0 hc1012).keep hcT (fun k hk hm => (hva' k hk).2.1 (hin k hm))
    have hV15 := (hV10.keep0 hc1012).keep hcT (fun k hk hm => (hVf k hk).2 (hin k hm))
    have h1015 := (h1010.keep0 hc1012).keep hcT (fun hm => hn10 (hin _ hm))
    have hz15 := hcT.size
    clear hd13 hd14 hd15 hc13 hc14 hc15 f13 f14 f15 gr13 gr14 gr15 m13 m14 x12 x10 hO10 hV10 h1010 h1411 h1410 hcl13 hcl14
    generalize (syncM (appendM (createM s nm).1 nm b).1 nm).1 = s15 at *
    refine go T 5 rfl ?_
    refine o1 rfl ?_
    refine op_buildSlice T rfl rfl rfl rfl rfl rfl rfl (fun gc w16 hs16 hc16 h16 => ?_)
    have h16 : Blk w16 gc 51 [id (.slice C b.length k)] := h16
    have hV16 := hV15.keep0 hc16
    have hz16 := hc16.size
    refine o1 rfl ?_
    refine op_append1 T (f := id) rfl rfl rfl rfl rfl rfl rfl rfl rfl hV16 h16 rfl (by omega) (fun vo' w17 hV17 hc17 hb17 => ?_)
    have hvo : ∀ k ∈ vo.ownBlock.toList, w.heap.size ≤ k ∧ k ∉ gm :: p15.fp g ∧ k < w5.heap.size := fun k hk => by
     have hk : vo.ownBlock = some k := by simpa using hk
     exact ⟨(hVf k hk).1, hout k (by have := hVlt k hk; omega) (hVf k hk).2, hVlt k hk⟩
    have x17 := (x15.keep0 hc16).beside hc17 (fun k hk => (hvo k hk).2.1) (fun k hk => (hvo k hk).1)
    have hO17 := (hO15.keep0 hc16).keep hc17 (out_own (hO15.keep0 hc16) hV16 (by decide))
    have h1017 := (h1015.keep0 hc16).keep hc17 (out_of (h1015.keep0 hc16) hV16 (by decide))
    refine go T 6 rfl ?_
    refine adI rfl rfl rfl rfl (by omega) (by omega) ?_
    refine go T 2 rfl ?_
    refine Round_n (i + 1, s15, p15, va', vo', us ++ [.slice C b.length k]) ⟨rfl, rfl, rfl, rfl, rfl, rfl, rfl, trivial⟩ ⟨by dsimp only; omega, x17, ?_, hout _ (by omega) hn10, h1017, ?_, fun k hk => ?_, hV17, fun k hk => ?_, ?_, fun j b' u' hj hu' => ?_⟩ (by dsimp only; omega)
    ·dsimp only
     rw [hFn, show (5 : Int) + 3 * ((i + 1 : Nat) : Int) = 5 + 3 * (i : Int) + 3 from by omega]
     exact hH'.more (by omega) (by omega)
    ·dsimp only; rw [hsn]; exact hO17
    ·exact ⟨(hva' k hk).1, hout k (by have := (hva' k hk).2.2.2; omega) (hva' k hk).2.1⟩
    ·dsimp only at hk ⊢
     rcases hb17 with h1 | ⟨k', h1, h2⟩
     ·have := hvo k (by rw [← h1]; simpa using hk); exact ⟨this.1, this.2.1⟩
     ·rw [h1] at hk; injection hk with hk
      refine ⟨by omega, fun hm => ?_⟩
      rcases List.mem_cons.1 hm with hm | hm
      ·have := x15.lt; omega
      ·have := x15.fs.at_.lt k hm; omega
    ·dsimp only; rw [List.length_append, hul]; rfl
    ·dsimp only at hj hu'
     by_cases hji : j < us.length
     ·rw [List.getElem?_append_left hji] at hu'
      exact hur j b' u' hj hu'
     ·have hj2 : j = i := by have := (List.getElem?_eq_some_iff.1 hu').1; rw [List.length_append, List.length_singleton] at this; omega
      subst hj2
      rw [hBx] at hj
      injection hj with hj
      rw [List.getElem?_append_right (by omega), show j - us.length = 0 from by omega] at hu'
      injection hu' with hu'
      subst hj; subst hu'
      exact ⟨rfl, hrb⟩
  ·have hsl : true = slOf G i := by unfold slOf; rw [List.getElem?_eq_none (by omega)]; rfl
   refine Walk.plain rfl (by intro val w_ hR hp; exact op_lss rfl rfl rfl (fun hcmp => False.elim (by omega)) (fun hcmp => ⟨Chg.refl _ _, rfl⟩)) ?_; dsimp only [na1, na2]
   refine Walk.plain rfl (by intro val w_ hR hp; exact op_move rfl rfl ⟨Chg.refl _ _, rfl⟩) ?_; dsimp only [na1, na2]
   refine Walk.guardF rfl rfl rfl (fun _ => rfl) rfl ?_; dsimp only [na1, na2]
   refine Walk.guardF rfl rfl rfl (fun _ => rfl) rfl ?_; dsimp only [na1, na2]
   refine Walk.guardF rfl rfl rfl (fun _ => rfl) rfl ?_; dsimp only [na1, na2]
   refine Walk.guardF rfl rfl rfl (fun _ => rfl) rfl ?_; dsimp only [na1, na2]
   refine Walk.plain rfl (by intro val w_ hR hp; exact op_pick rfl rfl rfl rfl ⟨Chg.refl _ _, rfl⟩) ?_; dsimp only [na1, na2]
   refine Walk.plain rfl (by intro val w_ hR hp; exact op_notF rfl rfl ⟨Chg.refl _ _, rfl⟩) ?_; dsimp only [na1, na2]
   refine Walk.plain rfl (by intro val w_ hR hp; exact op_move rfl rfl ⟨Chg.refl _ _, rfl⟩) ?_; dsimp only [na1, na2]
   refine Walk.plain rfl (by intro val w_ hR hp; exact op_len_slice T rfl rfl rfl rfl ⟨Chg.refl _ _, rfl⟩) ?_; dsimp only [na1, na2]
   refine Walk.plain rfl (by intro val w_ hR hp; exact op_move rfl rfl ⟨Chg.refl _ _, rfl⟩) ?_; dsimp only [na1, na2]
   refine Walk.plain (v := .int .u32 ((crcN b : Nat) : Int)) rfl (by intro val w_ hR hp; exact op_call rfl rfl rfl (sumN_has C b.length k b w_ (hrb w_ (hwc.trans' hR))) (fun v w' h => h)) ?_; dsimp only [na1, na2]
   refine Walk.plain (v := .agg #[.int .i64 ((i : Int) + 1), .bool true, .int .i64 0, .int .i64 0, .int .i64 (b.length : Int), .int .u32 ((crcN b : Nat) : Int)]) rfl (by intro val w_ hR hp; exact op_build T rfl rfl rfl rfl rfl rfl ⟨Chg.refl _ _, rfl⟩) ?_; dsimp only [na1, na2]
   refine Walk.rel (fun v w' => ∃ g14, v = .pointer (some ⟨g14, 0, none⟩) ∧ w5.heap.size ≤ g14 ∧ Blk w' g14 26 [.int .i64 0, .bool false, .int .i64 0, .int .i64 0, .int .i64 0, .int .u32 0]) rfl (fun v w w' h hab => let ⟨g14, h1, h2, h3⟩ := h; ⟨g14, h1, h2, h3.keep0 hab⟩) (by intro val w_ hR hp; exact op_alloc T rfl rfl (fun g14 w9 hs9 hc9 h14 => ⟨hc9, g14, rfl, by have := hR.size; omega, h14⟩)) ?_; dsimp only [na1, na2]
   refine Walk.fin ?_
   intro val w6 hc6 hp
   obtain ⟨g14, hv14, hs14, h14⟩ : ∃ g14, val 18 = .pointer (some ⟨g14, 0, none⟩) ∧ w5.heap.size ≤ g14 ∧ Blk w6 g14 26 [.int .i64 0, .bool false, .int .i64 0, .int .i64 0, .int .i64 0, .int .u32 0] := hp 18 (by omega) _ _ rfl rfl
   clear hp
   obtain ⟨y, hy⟩ : ∃ y, y = scSeg i b (slOf G i) := ⟨_, rfl⟩
   have hsy : (scSegs (filesB files) G)[i]? = some y := by unfold scSegs; rw [List.getElem?_mapIdx, hBx, hy]; rfl
   have hFy : (scF (filesB files) G)[i]? = some (fileNm y, b) := by unfold scF; rw [List.getElem?_mapIdx, hBx, hy]; rfl
   have hnew : fileNm y ∉ ((scF (filesB files) G).take i).map (·.1) := by rw [hy]; exact scF_new hB12 hlt
   refine WL_sub (e' := [(0, .slice (some ad) files.length c), (1, .slice Bg G.length d), (7, .pointer (some ⟨g, 0, none⟩)), (8, .pointer (some ⟨gm, 0, none⟩)), (10, .pointer (some ⟨g10, 0, none⟩)), (11, vo), (12, .int .i64 (i : Int)), (13, .slice C b.length k), (14, .pointer (some ⟨g14, 0, none⟩)), (57, .agg #[.int .i64 ((i : Int) + 1), .bool true, .int .i64 0, .int .i64 0, .int .i64 (b.length : Int), .int .u32 ((crcN b : Nat) : Int)])]) ⟨rfl, rfl, rfl, rfl, rfl, rfl, rfl, rfl, congrArg some hv14, rfl, trivial⟩ ?_
   refine runL ?_
   refine op0 rfl rfl ?_
   refine op_store_agg T rfl rfl rfl rfl rfl rfl h14 (by exact Nat.le_of_ble_eq_true rfl) (fun w7 hc7 h14n _ => ?_)
   replace h14 : Blk w7 g14 26 [.int .i64 ((i : Int) + 1), .bool true, .int .i64 0, .int .i64 0, .int .i64 (b.length : Int), .int .u32 ((crcN b : Nat) : Int)] := h14n
   clear h14n
   rw [← hsl] at hy
   have hc57 : Chg [] w5 w7 := hc6.trans hc7 (fun k hk hlt => by simp at hk; omega)
   have x7 := x.keep0 hc57
   have h107 := h10.keep0 hc57
   have hO7 := hO.keep0 hc57
   have hV7 := hV.keep0 hc57
   have hz57 := hc57.size
   have hOlt : ∀ k, va.ownBlock = some k → k < w5.heap.size := fun k hk => hO.lt hk
   have hVlt : ∀ k, vo.ownBlock = some k → k < w5.heap.size := fun k hk => hV.lt hk
   have h10lt := h10.lt
   have hfp5 := x.fs.at_.lt
   have hsw := hwc.size
   have hLl : ((scSegs (filesB files) G).take i).length ≤ 12 := by rw [List.length_take, scSegs_len]; omega
   have hsn : (scSegs (filesB files) G).take (i + 1) = (scSegs (filesB files) G).take i ++ [y] := by rw [List.take_add_one, hsy]; rfl
   have hFn : (scF (filesB files) G).take (i + 1) = (scF (filesB files) G).take i ++ [(fileNm y, b)] := by rw [List.take_add_one, hFy]; rfl
   have hny : fileNm y = dig2 (i + 1) ++ endSeg := by rw [hy, scNm]; rfl
   rw [hny] at hnew hFn
   have hmay := scName i true hi12
   change mayM (dig2 (i + 1) ++ endSeg) = true ∧ dig2 (i + 1) ++ endSeg ≠ manNm at hmay
   have hml : (dig2 (i + 1) ++ endSeg).length ≤ maxLen := by have := mayM_len hmay.1; unfold maxLen; omega
   have hbl : b.length ≤ 300 := hB300 b (List.mem_of_getElem? hBx)
   have hcl5 := hH.mul.calls
   obtain ⟨_, _, _, hH'⟩ := half_put (b := b) hH hmay.1 hmay.2 hnew (by omega) (by omega)
   have hn1 := name23_has (i + 1) endRaw
   have hn2 := name23_has (i + 1) endSeg
   rw [show ((i + 1 : Nat) : Int) = (i : Int) + 1 from by omega] at hn1 hn2
   clear hc6 hc7 h10 hO hV hsy hFy hny
   generalize (scSegs (filesB files) G).take i = Li at *
   generalize (scF (filesB files) G).take i = Fi at *
   obtain ⟨nm, hnm⟩ : ∃ nm, nm = dig2 (i + 1) ++ endSeg := ⟨_, rfl⟩
   rw [← hnm] at hnew hFn hmay hml hH'
   refine go T 5 rfl ?_
   refine ldB T h107 rfl rfl rfl rfl rfl rfl ?_
   refine o1 rfl (op_load_agg T rfl rfl rfl rfl h14 (by exact Nat.le_of_ble_eq_true rfl) (by exact rfl) ?_)
   refine o1 rfl ?_
   refine op_buildSlice T rfl rfl rfl rfl rfl rfl rfl (fun gb w8 hs8 hc8 h8 => ?_)
   have h8 : Blk w8 gb 26 (segL y) := by rw [hy]; exact h8
   have hO8 := hO7.keep0 hc8
   have h108 := h107.keep0 hc8
   have hz8 := hc8.size
   refine o1 rfl ?_
   refine op_appendK T segL_len rfl rfl rfl rfl rfl rfl rfl rfl rfl rfl hO8 h8 (segL_one _) (by omega) (fun va' w9 hO9 hc9 hb9 => ?_)
   have h109 := h108.keep hc9 (out_of h108 hO8 (by decide))
   have h149 := (h14.keep0 hc8).keep hc9 (fun hm => by have := hOlt g14 (by simpa using hm); omega)
   have x9 := (x7.keep0 hc8).beside hc9 (fun k hk => (hOf k (by simpa using hk)).2) (fun k hk => (hOf k (by simpa using hk)).1)
   have hV9 := (hV7.keep0 hc8).keep hc9 (out_own (hV7.keep0 hc8) hO8 (by decide))
   have hz9 := hc9.size
   have hva' : ∀ k, va'.ownBlock = some k → w.heap.size ≤ k ∧ k ∉ gm :: p.fp g ∧ k ≠ g10 ∧ k < w9.heap.size := fun k hk => by
    refine ⟨?_, ?_, fun e => ?_, hO9.lt hk⟩
    ·rcases hb9 with h1 | ⟨k', h1, h2⟩
     ·exact (hOf k (by rw [← h1]; exact hk)).1
     ·rw [h1] at hk; injection hk with hk; omega
    ·rcases hb9 with h1 | ⟨k', h1, h2⟩
     ·exact (hOf k (by rw [← h1]; exact hk)).2
     ·rw [h1] at hk; injection hk with hk
      intro hm
      rcases List.mem_cons.1 hm with hm | hm
      ·have := x.lt; omega
      ·have := hfp5 k hm; omega
    ·subst e; exact out_of h109 hO9 (by decide) (by rw [hk]; simp)
   refine go T 1 rfl ?_
   refine op0 rfl rfl ?_
   refine op_store T rfl rfl rfl rfl rfl (own_one hO9) h109 (by simp) (fun w10 hc10 h1010 _ => ?_)
   replace h1010 : Blk w10 g10 49 [.int .i64 50, .int .i64 0, va', .slice none 0 0, .slice none 0 0, .slice none 0 0] := h1010
   have h1410 := h149.keep hc10 (by simp; omega)
   have x10 := x9.beside hc10 (fun k hk => by rw [List.mem_singleton.1 hk]; exact hn10) (fun k hk => by rw [List.mem_singleton.1 hk]; exact h10w)
   have hO10 := hO9.keep hc10 (fun k hk hm => (hva' k hk).2.2.1 (List.mem_singleton.1 hm))
   have hV10 := hV9.keep hc10 (fun k hk hm => by rw [List.mem_singleton.1 hm] at hk; exact out_of h109 hV9 (by decide) (by rw [hk]; simp))
   have hz10 := hc10.size
   clear x7 x9 hO7 hO8 hO9 hV7 hV9 h107 h108 h109 h149 h14 hc8 hc9 hc10 h8
   refine go T 5 rfl ?_
   refine ldB T h1410 rfl rfl rfl rfl rfl rfl ?_
   refine o1 rfl ?_
   refine op_call rfl rfl rfl (hn1 w10 (by omega) (by decide)) ?_
   rintro _ w11 ⟨hc11, rfl⟩
   have h1411 := h1410.keep0 hc11
   refine go T 7 rfl ?_
   refine ldB T h1411 rfl rfl rfl rfl rfl rfl ?_
   refine go T 5 rfl ?_
   refine ldB T h1411 rfl rfl rfl rfl rfl rfl ?_
   refine o1 rfl ?_
   refine op_call rfl rfl rfl (hn2 w11 (by omega) (by decide)) ?_
   rintro _ w12 ⟨hc12, rfl⟩
   have hc1112 := hc11.trans' hc12
   refine go T 7 rfl ?_
   refine o1 rfl ?_
   rw [← hnm]
   have hc1012 : Chg [] w10 w12 := hc11.trans' hc12
   have x12 := x10.keep0 hc1012
   have hz12 := hc1012.size
   have m13 := (mul_create hH.mul hmay.1 (by omega)).2.1
   have m13h := (mul_create hH.mul hmay.1 (by omega)).2.2.1
   have m14 := (mul_append (c := b) m13 m13h (by omega)).2.1
   have hcl13 := m13.calls
   have hcl14 := m14.calls
   have m15 := hH'.mul.calls
   clear m13h
   refine op_call rfl rfl rfl (create_has g s p nm w12 x12.fs.at_ hml (by omega)) ?_
   rintro v13 w13 hd13
   obtain ⟨rfl, hc13, p13, f13, gr13⟩ := fsO_step x12.fs hd13
   refine go T 7 rfl ?_
   refine o1 rfl ?_
   refine op_call rfl rfl rfl (append_has g _ p13 nm C b.length k b w13 f13.at_ (fun w'' h => hrb w'' (f13.chgFp h)) (by omega) (by omega)) ?_
   rintro v14 w14 hd14
   obtain ⟨rfl, hc14, p14, f14, gr14⟩ := fsO_step f13 hd14
   refine go T 6 rfl ?_
   refine o1 rfl ?_
   refine op_call rfl rfl rfl (sync_has g _ p14 nm w14 f14.at_ (by omega)) ?_
   rintro v15 w15 hd15
   obtain ⟨rfl, hc15, p15, f15, gr15⟩ := fsO_step f14 hd15
   have hcT : Chg (p.fp g) w12 w15 := (hc13.fps gr13 hc14).fps (gr13.trans gr14 hc13.size) hc15
   have grT : Grows w12 g p p15 := (gr13.trans gr14 hc13.size).trans gr15 (Nat.le_trans hc13.size hc14.size)
   have x15 := x12.step hcT f15 grT
   have hout : ∀ k, k < w10.heap.size → k ∉ gm :: p.fp g → k ∉ gm :: p15.fp g := fun k h1 h2 hm => by
    rcases List.mem_cons.1 hm with hm | hm
    ·exact h2 (by simp [hm])
    ·rcases grT k hm with h3 | h3
     ·exact h2 (by simp [h3])
     ·omega
   have hin : ∀ k ∈ p.fp g, k ∈ gm :: p.fp g := fun k hk => by simp [hk]
   have hO15 := (hO10.keep0 hc1012).keep hcT (fun k hk hm => (hva' k hk).2.1 (hin k hm))
   have hV15 := (hV10.keep0 hc1012).keep hcT (fun k hk hm => (hVf k hk).2 (hin k hm))
   have h1015 := (h1010.keep0 hc1012).keep hcT (fun hm => hn10 (hin _ hm))
   have hz15 := hcT.size
   clear hd13 hd14 hd15 hc13 hc14 hc15 f13 f14 f15 gr13 gr14 gr15 m13 m14 x12 x10 hO10 hV10 h1010 h1411 h1410 hcl13 hcl14
   generalize (syncM (appendM (createM s nm).1 nm b).1 nm).1 = s15 at *
   refine go T 5 rfl ?_
   refine o1 rfl ?_
   refine op_buildSlice T rfl rfl rfl rfl rfl rfl rfl (fun gc w16 hs16 hc16 h16 => ?_)
   have h16 : Blk w16 gc 51 [id (.slice C b.length k)] := h16
   have hV16 := hV15.keep0 hc16
   have hz16 := hc16.size
   refine o1 rfl ?_
   refine op_append1 T (f := id) rfl rfl rfl rfl rfl rfl rfl rfl rfl hV16 h16 rfl (by omega) (fun vo' w17 hV17 hc17 hb17 => ?_)
   have hvo : ∀ k ∈ vo.ownBlock.toList, w.heap.size ≤ k ∧ k ∉ gm :: p15.fp g ∧ k < w5.heap.size := fun k hk => by
    have hk : vo.ownBlock = some k := by simpa using hk
    exact ⟨(hVf k hk).1, hout k (by have := hVlt k hk; omega) (hVf k hk).2, hVlt k hk⟩
   have x17 := (x15.keep0 hc16).beside hc17 (fun k hk => (hvo k hk).2.1) (fun k hk => (hvo k hk).1)
   have hO17 := (hO15.keep0 hc16).keep hc17 (out_own (hO15.keep0 hc16) hV16 (by decide))
   have h1017 := (h1015.keep0 hc16).keep hc17 (out_of (h1015.keep0 hc16) hV16 (by decide))
   refine go T 6 rfl ?_
   refine adI rfl rfl rfl rfl (by omega) (by omega) ?_
   refine go T 2 rfl ?_
   refine Round_n (i + 1, s15, p15, va', vo', us ++ [.slice C b.length k]) ⟨rfl, rfl, rfl, rfl, rfl, rfl, rfl, trivial⟩ ⟨by dsimp only; omega, x17, ?_, hout _ (by omega) hn10, h1017, ?_, fun k hk => ?_, hV17, fun k hk => ?_, ?_, fun j b' u' hj hu' => ?_⟩ (by dsimp only; omega)
   ·dsimp only
    rw [hFn, show (5 : Int) + 3 * ((i + 1 : Nat) : Int) = 5 + 3 * (i : Int) + 3 from by omega]
    exact hH'.more (by omega) (by omega)
   ·dsimp only; rw [hsn]; exact hO17
   ·exact ⟨(hva' k hk).1, hout k (by have := (hva' k hk).2.2.2; omega) (hva' k hk).2.1⟩
   ·dsimp only at hk ⊢
    rcases hb17 with h1 | ⟨k', h1, h2⟩
    ·have := hvo k (by rw [← h1]; simpa using hk); exact ⟨this.1, this.2.1⟩
    ·rw [h1] at hk; injection hk with hk
     refine ⟨by omega, fun hm => ?_⟩
     rcases List.mem_cons.1 hm with hm | hm
     ·have := x15.lt; omega
     ·have := x15.fs.at_.lt k hm; omega
   ·dsimp only; rw [List.length_append, hul]; rfl
   ·dsimp only at hj hu'
    by_cases hji : j < us.length
    ·rw [List.getElem?_append_left hji] at hu'
     exact hur j b' u' hj hu'
    ·have hj2 : j = i := by have := (List.getElem?_eq_some_iff.1 hu').1; rw [List.length_append, List.length_singleton] at this; omega
     subst hj2
     rw [hBx] at hj
     injection hj with hj
     rw [List.getElem?_append_right (by omega), show j - us.length = 0 from by omega] at hu'
     injection hu' with hu'
     subst hj; subst hu'
     exact ⟨rfl, hrb⟩
 ·obtain rfl : i = (filesB files).length := by omega
  rw [List.take_of_length_le (by rw [scF_len]; exact Nat.le_refl _)] at hH
  rw [List.take_of_length_le (by rw [scSegs_len]; exact Nat.le_refl _)] at hO
  have hcl5 := hH.mul.calls
  have hfp5 := x.fs.at_.lt
  have hgd := scE_good (G := G) hB12 hB300
  have hel := encE_len hgd.ok hgd.sums
  obtain ⟨_, hF6⟩ := half_dir hH hfile hmok
  obtain ⟨hz7, hF7⟩ := full_commit hF6 (scF_man hB12) hgd (scE_apply hB12 hB300) (by omega)
  have hcl6 := hF6.mul.calls
  have hI : EdI (scE (scSegs (filesB files) G)) := by
   refine ⟨⟨by show (-9223372036854775808 : Int) ≤ 50; decide, by show (50 : Int) ≤ 9223372036854775807; decide⟩, ⟨by show (-9223372036854775808 : Int) ≤ 0; decide, by show (0 : Int) ≤ 9223372036854775807; decide⟩, fun y hy => ?_, fun q hq => by cases hq⟩
   obtain ⟨h1, h2, h3, h4, h5⟩ := scSeg_mem hB12 hB300 hy
   exact ⟨⟨by omega, by omega⟩, ⟨by omega, by omega⟩, ⟨by omega, by omega⟩, ⟨by omega, by omega⟩, h5⟩
  by_cases hif : (filesB files).length < files.length
  ·refine run ?_
   refine go T 6 rfl ?_
   refine ltT rfl rfl rfl rfl (by omega) ?_
   refine go T 2 rfl ?_
   refine ltF rfl rfl rfl rfl (by omega) ?_
   refine go T 6 rfl ?_
   refine rndX ?_
   refine go T 5 rfl ?_
   refine o1 rfl ?_
   refine op_call rfl rfl rfl (syncDir_has g s p w5 x.fs.at_ (by omega)) ?_
   rintro v6 w6 hd6
   obtain ⟨rfl, hc6, p6, f6, gr6⟩ := fsO_step x.fs hd6
   have x6 := x.step hc6 f6 gr6
   have hin : ∀ k ∈ p.fp g, k ∈ gm :: p.fp g := fun k hk => by simp [hk]
   have hout : ∀ k, k < w5.heap.size → k ∉ gm :: p.fp g → k ∉ gm :: p6.fp g := fun k h1 h2 hm => by
    rcases List.mem_cons.1 hm with hm | hm
    ·exact h2 (by simp [hm])
    ·rcases gr6 k hm with h3 | h3
     ·exact h2 (by simp [h3])
     ·omega
   have hO6 := hO.keep hc6 (fun k hk hm => (hOf k hk).2 (hin k hm))
   have hV6 := hV.keep hc6 (fun k hk hm => (hVf k hk).2 (hin k hm))
   have h106 := h10.keep hc6 (fun hm => hn10 (hin _ hm))
   have hz6 := hc6.size
   refine go T 6 rfl ?_
   refine o1 rfl (op_load_agg T rfl rfl rfl rfl h106 (by exact Nat.le_of_ble_eq_true rfl) (by exact rfl) ?_)
   refine o1 rfl ?_
   refine op_call rfl rfl rfl (commitOk_has x6 (show POk stM0.plain from p0_ok) (e := scE (scSegs (filesB files) G)) (xa := va) (xd := .slice none 0 0) (xp := .slice none 0 0) (xr := .slice none 0 0) (X := []) hI (fun w1 h1 => ⟨(hO6.keep h1 (fun k hk => hout k (hO.lt hk) (hOf k hk).2)).readsK segL_len, SliceOf.nil _ _, SliceK.nil _ _ _, rfl, fun q hq => (by cases hq), SliceOf.nil _ _⟩) (scE_apply hB12 hB300) hz7 (by omega)) ?_
   rintro _ w7 ⟨rfl, hc7, p7, st7, hg7, hp7, x7⟩
   refine neF rfl rfl rfl rfl (by omega) ?_
   refine go T 16 rfl ?_
   refine post3 (.inl rfl) rfl rfl rfl rfl ⟨g, gm, vo, _, p7, st7, _, _, rfl, x7, hp7, (by rw [show (8 : Int) + 3 * ((filesB files).length : Int) = 5 + 3 * ((filesB files).length : Int) + 1 + 2 from by omega]; exact hF7), by omega, by rw [List.length_append]; omega, fun w8 h8 => ?_⟩
   have hV7 := hV6.keep hc7 (fun k hk => hout k (hV.lt hk) (hVf k hk).2)
   have hV8 := hV7.keep h8 (fun k hk hm => by
    rcases List.mem_cons.1 hm with hm | hm
    ·exact (hVf k hk).2 (by simp [hm])
    ·rcases hg7 k hm with h3 | h3
     ·exact hout k (hV.lt hk) (hVf k hk).2 (by simp [h3])
     ·have := hV6.lt hk; omega)
   rw [hul] at hV8
   have hcw8 : Chg [] w w8 := x7.fs.chg.trans h8 (fun k hk hlt => by
    rcases List.mem_cons.1 hk with hk | hk
    ·have := x7.fresh; omega
    ·have := x7.fs.fresh k hk; omega)
   exact hV8.reads rfl (fun j b u hb hu => by
    rw [List.map_id] at hu
    exact (hur j b u hb hu).2 w8 hcw8)
  ·refine run ?_
   refine go T 6 rfl ?_
   refine ltF rfl rfl rfl rfl (by omega) ?_
   refine go T 9 rfl ?_
   refine rndX ?_
   refine go T 5 rfl ?_
   refine o1 rfl ?_
   refine op_call rfl rfl rfl (syncDir_has g s p w5 x.fs.at_ (by omega)) ?_
   rintro v6 w6 hd6
   obtain ⟨rfl, hc6, p6, f6, gr6⟩ := fsO_step x.fs hd6
   have x6 := x.step hc6 f6 gr6
   have hin : ∀ k ∈ p.fp g, k ∈ gm :: p.fp g := fun k hk => by simp [hk]
   have hout : ∀ k, k < w5.heap.size → k ∉ gm :: p.fp g → k ∉ gm :: p6.fp g := fun k h1 h2 hm => by
    rcases List.mem_cons.1 hm with hm | hm
    ·exact h2 (by simp [hm])
    ·rcases gr6 k hm with h3 | h3
     ·exact h2 (by simp [h3])
     ·omega
   have hO6 := hO.keep hc6 (fun k hk hm => (hOf k hk).2 (hin k hm))
   have hV6 := hV.keep hc6 (fun k hk hm => (hVf k hk).2 (hin k hm))
   have h106 := h10.keep hc6 (fun hm => hn10 (hin _ hm))
   have hz6 := hc6.size
   refine go T 6 rfl ?_
   refine o1 rfl (op_load_agg T rfl rfl rfl rfl h106 (by exact Nat.le_of_ble_eq_true rfl) (by exact rfl) ?_)
   refine o1 rfl ?_
   refine op_call rfl rfl rfl (commitOk_has x6 (show POk stM0.plain from p0_ok) (e := scE (scSegs (filesB files) G)) (xa := va) (xd := .slice none 0 0) (xp := .slice none 0 0) (xr := .slice none 0 0) (X := []) hI (fun w1 h1 => ⟨(hO6.keep h1 (fun k hk => hout k (hO.lt hk) (hOf k hk).2)).readsK segL_len, SliceOf.nil _ _, SliceK.nil _ _ _, rfl, fun q hq => (by cases hq), SliceOf.nil _ _⟩) (scE_apply hB12 hB300) hz7 (by omega)) ?_
   rintro _ w7 ⟨rfl, hc7, p7, st7, hg7, hp7, x7⟩
   refine neF rfl rfl rfl rfl (by omega) ?_
   refine go T 16 rfl ?_
   refine post3 (.inl rfl) rfl rfl rfl rfl ⟨g, gm, vo, _, p7, st7, _, _, rfl, x7, hp7, (by rw [show (8 : Int) + 3 * ((filesB files).length : Int) = 5 + 3 * ((filesB files).length : Int) + 1 + 2 from by omega]; exact hF7), by omega, by rw [List.length_append]; omega, fun w8 h8 => ?_⟩
   have hV7 := hV6.keep hc7 (fun k hk => hout k (hV.lt hk) (hVf k hk).2)
   have hV8 := hV7.keep h8 (fun k hk hm => by
    rcases List.mem_cons.1 hm with hm | hm
    ·exact (hVf k hk).2 (by simp [hm])
    ·rcases hg7 k hm with h3 | h3
     ·exact hout k (hV.lt hk) (hVf k hk).2 (by simp [h3])
     ·have := hV6.lt hk; omega)
   rw [hul] at hV8
   have hcw8 : Chg [] w w8 := x7.fs.chg.trans h8 (fun k hk hlt => by
    rcases List.mem_cons.1 hk with hk | hk
    ·have := x7.fresh; omega
    ·have := x7.fs.fresh k hk; omega)
   exact hV8.reads rfl (fun j b u hb hu => by
    rw [List.map_id] at hu
    exact (hur j b u hb hu).2 w8 hcw8)
end Go.Proofs.YtiadjkjlifnopaaGreatDoor.Tryz
/-! Scrub: what Make does to files that are whole. -/
namespace Go.Vc
open Go
theorem putG_ok {s : FsM} {nm : Nm} {b : List UInt8} {n k : Nat} (h : (putK4 s nm b k).2 = 0) : putG nm b (n + 1) k s = putG nm b n (k + 1) (putK4 s nm b k).1 := by
 rw [putG, if_neg (by simpa using h)]
theorem parName_may (n : Nat) (h : n < 100) : mayM (dig2 n ++ endPar) = true ∧ dig2 n ++ endPar ≠ manNm := by
 have key : ∀ i : Fin 100, mayM (dig2 i.val ++ endPar) = true ∧ dig2 i.val ++ endPar ≠ manNm := by decide +kernel
 exact key ⟨n, h⟩
section
variable {s : FsM} {calls : Int} {u n : Nat} {mb b : List UInt8} {q q' : PSt} {F : List (Nm × List UInt8)} {nm : Nm}
theorem full_put (h : Full s calls u n mb q F) (hm : mayM nm = true) (hne : nm ≠ manNm) (hnew : nm ∉ F.map (·.1)) (hn : n < 150) (hr : u + b.length ≤ 1048576) :
  (putF s nm b).2 = 0 ∧ Full (putF s nm b).1 (calls + 4) (u + b.length) (n + 1) mb q (F ++ [(nm, b)]) := by
 obtain ⟨e1, e2, e3, h1⟩ := half_put (b := b) h.half hm hne hnew hn hr
 obtain ⟨e4, h2⟩ := half_dir h1 h.file h.ok
 have e : putF s nm b = ((syncDirM (syncM (appendM (createM s nm).1 nm b).1 nm).1).1, 0) := by
  unfold putF
  exact (putG_ok (n := 3) (k := 0) e1).trans ((putG_ok (n := 2) (k := 1) e2).trans ((putG_ok (n := 1) (k := 2) e3).trans (putG_ok (n := 0) (k := 3) e4)))
 rw [e]
 exact ⟨rfl, by rw [show calls + 4 = calls + 3 + 1 from by omega]; exact h2⟩
end
end Go.Vc
namespace Go.Proofs.YtiadjkjlifnopaaGreatDoor.Tryz
open Go Go.Vc
theorem makeF_full {s : FsM} {calls : Int} {u n : Nat} {mb : List UInt8} {q q' : PSt} {F : List (Nm × List UInt8)} (h : Full s calls u n mb q F) {num : Nat} (hnum : num < 100) {I : List GItem} (hnew : dig2 num ++ endPar ∉ F.map (·.1)) (hF : manNm ∉ F.map (·.1)) (hn : n < 150)
  (hg : EdGood (mkE (num : Int) I)) (ha : applyP q (mkE (num : Int) I) false = some q') (hr : u + (gPar I).length + (encE (mkE (num : Int) I)).1.length ≤ 1048576) :
  (makeF s (num : Int) I).2 = 0 ∧ Full (makeF s (num : Int) I).1 (calls + 6) (u + (gPar I).length + (encE (mkE (num : Int) I)).1.length) (n + 1) (mb ++ (encE (mkE (num : Int) I)).1) q' (F ++ [(dig2 num ++ endPar, gPar I)]) := by
 obtain ⟨h1, h2⟩ := parName_may num hnum
 obtain ⟨e1, h3⟩ := full_put (b := gPar I) h h1 h2 hnew hn (by omega)
 obtain ⟨e2, h4⟩ := full_commit h3 (by rw [List.map_append, List.mem_append, not_or]; exact ⟨hF, by simpa using h2.symm⟩) hg ha (by omega)
 have e : makeF s (num : Int) I = ((commitF (putF s (dig2 num ++ endPar) (gPar I)).1 (encE (mkE (num : Int) I)).1).1, 0) := by
  unfold makeF
  rw [Int.toNat_natCast]
  dsimp only
  rw [e1, if_neg (by simp), e2]
  rfl
 rw [e]
 exact ⟨rfl, by rw [show calls + 6 = calls + 4 + 2 from by omega]; exact h4⟩
end Go.Proofs.YtiadjkjlifnopaaGreatDoor.Tryz
/-! Scrub: the edit of make at a manifest's state. -/
namespace Go.Vc
open Go
theorem erase_at {α : Type} : ∀ {L : List α} {k : Nat} {x : α}, L[k]? = some x → (x :: L.eraseIdx k).Perm L
 | [], k, x, h => by simp at h
 | a :: l, 0, x, h => by simp at h; subst h; exact List.Perm.refl _
 | a :: l, k + 1, x, h => by
  have ih := erase_at (L := l) (k := k) (x := x) (by simpa using h)
  show (x :: a :: l.eraseIdx k).Perm (a :: l)
  exact (List.Perm.swap a x _).trans (ih.cons a)
theorem take_all {α : Type} {key : α → Int} : ∀ (ys L : List α), (L.map key).Nodup → (∀ y ∈ ys, y ∈ L) → (ys.map key).Nodup → ∃ L', takeK key (ys.map key) L = some L' ∧ (ys ++ L').Perm L
 | [], L, _, _, _ => ⟨L, rfl, List.Perm.refl _⟩
 | y :: ys, L, hn, hm, hy => by
  have hyL := hm y (by simp)
  have hneg : ¬ idxM (fun x => decide (key x = key y)) L < 0 := fun h => by
   have := idxM_neg h y hyL
   simp at this
  obtain ⟨x, hx, hp⟩ := idxM_at hneg
  have hxk : key x = key y := by simpa using hp
  have hp1 := erase_at hx
  have hn1 : ((x :: L.eraseIdx (idxM (fun x => decide (key x = key y)) L).toNat).map key).Nodup := (hp1.map key).nodup_iff.2 hn
  have hxy : x = y := by
   rcases List.mem_cons.1 (hp1.mem_iff.2 hyL) with h | h
   ·exact h.symm
   ·rw [List.map_cons, List.nodup_cons] at hn1
    exact absurd (List.mem_map.2 ⟨y, h, hxk.symm⟩) hn1.1
  subst hxy
  rw [List.map_cons, List.nodup_cons] at hn1 hy
  obtain ⟨L', h1, h2⟩ := take_all ys _ hn1.2 (fun z hz => by
   rcases List.mem_cons.1 (hp1.mem_iff.2 (hm z (by simp [hz]))) with h | h
   ·subst h; exact absurd (List.mem_map.2 ⟨z, hz, rfl⟩) hy.1
   ·exact h) hy.2
  refine ⟨L', ?_, ?_⟩
  ·rw [List.map_cons, takeK, if_neg hneg]; exact h1
  ·exact (h2.cons x).trans hp1
def updS (num : Int) (ns : List Int) (y : SegM) : SegM := match ns.findIdx? (fun n => decide (n = y.num)) with
 | some i => { y with group := num, member := (i : Int) }
 | none => y
theorem updS_num (num : Int) (ns : List Int) (y : SegM) : (updS num ns y).num = y.num ∧ (updS num ns y).sealed = y.sealed ∧ (updS num ns y).size = y.size ∧ (updS num ns y).sum = y.sum := by
 unfold updS; split <;> exact ⟨rfl, rfl, rfl, rfl⟩
end Go.Vc
namespace Go.Proofs.YtiadjkjlifnopaaGreatDoor.Tryz
open Go Go.Vc
theorem updS_out {num : Int} {ns : List Int} {y : SegM} (h : y.num ∉ ns) : updS num ns y = y := by
 unfold updS
 rw [List.findIdx?_eq_none_iff.2 (fun n hn => by simp only [decide_eq_false_iff_not]; intro e; subst e; exact h hn)]
theorem updS_in {num : Int} {ns : List Int} {i : Nat} {y : SegM} (hn : ns.Nodup) (h : ns[i]? = some y.num) : updS num ns y = mkS num i y := by
 unfold updS
 rw [List.findIdx?_eq_some_iff_getElem.2 ⟨(List.getElem?_eq_some_iff.1 h).1, by simp [(List.getElem?_eq_some_iff.1 h).2], fun j hj => by
  have hi := List.getElem?_eq_some_iff.1 h
  obtain ⟨hil, hie⟩ := hi
  simp only [decide_eq_true_eq]
  intro e
  have := (List.getElem_inj (h₀ := by omega) (h₁ := hil) hn).1 (e.trans hie.symm)
  omega⟩]
 rfl
theorem segs_upd {S : List SegM} {I : List GItem} {num : Int} (hn : (S.map numK).Nodup) (hs : S.Pairwise fun x y => numK x ≤ numK y) (hI : ∀ it ∈ I, it.seg ∈ S) (hd : (gNums I).Nodup) :
  ∃ L', takeK numK (gNums I) S = some L' ∧ putK numK (gAdds num I) L' = some (L' ++ gAdds num I) ∧ sortK numK (L' ++ gAdds num I) = S.map (updS num (gNums I)) := by
 have e : gNums I = (I.map (·.seg)).map numK := by unfold gNums; rw [List.map_map]; rfl
 obtain ⟨L', h1, h2⟩ := take_all (key := numK) (I.map (·.seg)) S hn (fun y hy => by obtain ⟨it, h, rfl⟩ := List.mem_map.1 hy; exact hI it h) (by rw [← e]; exact hd)
 rw [← e] at h1
 have h3 : (I.map (·.seg)).map (updS num (gNums I)) = gAdds num I := by
  apply List.ext_getElem?
  intro i
  unfold gAdds
  rw [List.getElem?_map, List.getElem?_map, List.getElem?_mapIdx]
  cases hi : I[i]? with
  | none => rfl
  | some it =>
   show some (updS num (gNums I) it.seg) = some (mkS num i it.seg)
   rw [updS_in hd (i := i) (by unfold gNums; rw [List.getElem?_map, hi]; rfl)]
 have hn2 : (((I.map (·.seg)) ++ L').map numK).Nodup := (h2.map numK).nodup_iff.2 hn
 have h4 : L'.map (updS num (gNums I)) = L' := by
  have : ∀ y ∈ L', updS num (gNums I) y = y := fun y hy => updS_out fun hm => by
   rw [List.map_append, List.nodup_append] at hn2
   rw [e] at hm
   exact hn2.2.2 _ hm _ (List.mem_map.2 ⟨y, hy, rfl⟩) rfl
  rw [List.map_congr_left this, List.map_id']
 have h5 : (S.map (updS num (gNums I))).Perm (L' ++ gAdds num I) := by
  have h := (h2.map (updS num (gNums I))).symm
  rw [List.map_append, h3, h4] at h
  exact h.trans List.perm_append_comm
 have hk : (S.map (updS num (gNums I))).map numK = S.map numK := by
  rw [List.map_map]
  exact List.map_congr_left fun y _ => (updS_num num (gNums I) y).1
 have hn3 : ((L' ++ gAdds num I).map numK).Nodup := (h5.map numK).nodup_iff.1 (by rw [hk]; exact hn)
 refine ⟨L', h1, putK_all hn3, (sortK_unique hn3 h5 ?_).symm⟩
 rw [List.pairwise_map]
 refine hs.imp fun {a b} hab => ?_
 show (updS num (gNums I) a).num ≤ (updS num (gNums I) b).num
 rw [(updS_num _ _ a).1, (updS_num _ _ b).1]
 exact hab
end Go.Proofs.YtiadjkjlifnopaaGreatDoor.Tryz
