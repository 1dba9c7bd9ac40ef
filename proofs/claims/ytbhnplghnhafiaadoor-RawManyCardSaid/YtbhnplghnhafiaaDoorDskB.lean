import Derived.Test.YtbhnplghnhafiaaDoorDskA
/-! Files: of the call's own; one file. -/
set_option linter.unusedVariables false
set_option linter.unusedSimpArgs false
namespace Go.Proofs.YtbhnplghnhafiaaDoor.Tryd
open Go Go.Vc

/-- A file system that was made since w0; of what lay there nothing has turned. -/
structure FsO (w0 w : World) (g : Nat) (s : FsM) (p : FsP) : Prop where
  chg : Chg [] w0 w
  at_ : FsAt w g s p
  fresh : ∀ k ∈ p.fp g, w0.heap.size ≤ k
section
variable {w0 w w' : World} {g : Nat} {s : FsM} {p : FsP}
theorem FsO.keep0 (x : FsO w0 w g s p) (hc : Chg [] w w') : FsO w0 w' g s p := ⟨x.chg.trans' hc, x.at_.keep0 hc, x.fresh⟩
theorem FsO.base {w1 : World} (x : FsO w1 w g s p) (hc : Chg [] w0 w1) : FsO w0 w g s p := ⟨hc.trans' x.chg, x.at_, fun k hk => by have := x.fresh k hk; have := hc.size; omega⟩
theorem FsO.chgFp (x : FsO w0 w g s p) (hc : Chg (p.fp g) w w') : Chg [] w0 w' := x.chg.trans hc (fun k hk hlt => by have := x.fresh k hk; omega)
/-- A row made behind it, whatever becomes of it. -/
theorem FsO.row (x : FsO w0 w g s p) {w1 : World} (hc : Chg [] w w1) {gb : Nat} (hs : w.heap.size ≤ gb) {vs : List Value} {t : TypeId} {fr : Nat × Nat} (hg : w1.heap[gb]? = some (.cells vs.toArray t fr)) {n c : Nat} {L : List UInt8} (hn : n = L.length) (hnc : n ≤ c) (hcm : c ≤ maxLen)
    (h : ∀ (i : Nat) (y : UInt8), L[i]? = some y → ∃ u, vs[i]? = some u ∧ Ru8 w u y) : Firm (p.fp g) w1 (fun w => SliceOf Ru8 w (.slice (some ⟨gb, 0, none⟩) n c) L) := fun w2 h2 =>
  SliceOf.of_heap ((h2.keep gb (Array.getElem?_eq_some_iff.1 hg).1 (fun hm => by have := x.at_.lt gb hm; omega)).trans hg) hn hnc hcm (fun i y hy => by
    obtain ⟨u, h1, h2⟩ := h i y hy
    exact ⟨u, h1, h2⟩)
theorem FsO.done (x : FsO w0 w g s p) {r : FsM × Int} {v : Value} (h : FsDone w g p r v w') : v = .int .i64 r.2 ∧ ∃ p', FsO w0 w' g r.1 p' := by
  obtain ⟨h1, h2, p', h3, h4⟩ := h
  exact ⟨h2, p', x.chgFp h1, h3, fun k hk => by
    rcases h4 k hk with h | h
    · exact x.fresh k h
    · have := x.chg.size; omega⟩
end
theorem newO_has (n : Int) (w : World) : Has Go.Proofs.Tryd.prog 8 #[.int .i64 n] w (fun v w' => ∃ g p, v = ptrV g ∧ FsO w w' g (newM n) p) :=
  (newFs_has n w).mono fun v w' ⟨hc, g, p, hv, hx, hf⟩ => ⟨g, p, hv, hc, hx, hf⟩
theorem createO_has {w0 w : World} {g : Nat} {s : FsM} {p : FsP} (x : FsO w0 w g s p) (k : Nm) (hk : k.length ≤ maxLen) (hcalls : s.calls < 1000000000 - 1) :
    Has Go.Proofs.Tryd.prog 28 #[ptrV g, .string (str k)] w (fun v w' => v = .int .i64 (createM s k).2 ∧ ∃ p', FsO w0 w' g (createM s k).1 p') := (create_has g s p k w x.at_ hk hcalls).mono fun _ _ h => x.done h
theorem appendO_has {w0 w : World} {g : Nat} {s : FsM} {p : FsP} (x : FsO w0 w g s p) (k : Nm) {A : Option Addr} {n c : Nat} {b : List UInt8} (hb : Firm (p.fp g) w (fun w => SliceOf Ru8 w (.slice A n c) b)) (hbl : b.length ≤ 1000000000) (hcalls : s.calls < 1000000000 - 1) :
    Has Go.Proofs.Tryd.prog 30 #[ptrV g, .string (str k), .slice A n c] w (fun v w' => v = .int .i64 (appendM s k b).2 ∧ ∃ p', FsO w0 w' g (appendM s k b).1 p') := (append_has g s p k A n c b w x.at_ hb hbl hcalls).mono fun _ _ h => x.done h
theorem syncO_has {w0 w : World} {g : Nat} {s : FsM} {p : FsP} (x : FsO w0 w g s p) (k : Nm) (hcalls : s.calls < 1000000000 - 1) :
    Has Go.Proofs.Tryd.prog 35 #[ptrV g, .string (str k)] w (fun v w' => v = .int .i64 (syncM s k).2 ∧ ∃ p', FsO w0 w' g (syncM s k).1 p') := (sync_has g s p k w x.at_ hcalls).mono fun _ _ h => x.done h
theorem syncDirO_has {w0 w : World} {g : Nat} {s : FsM} {p : FsP} (x : FsO w0 w g s p) (hcalls : s.calls < 1000000000 - 1) :
    Has Go.Proofs.Tryd.prog 24 #[ptrV g] w (fun v w' => v = .int .i64 (syncDirM s).2 ∧ ∃ p', FsO w0 w' g (syncDirM s).1 p') := (syncDir_has g s p w x.at_ hcalls).mono fun _ _ h => x.done h
theorem renameO_has {w0 w : World} {g : Nat} {s : FsM} {p : FsP} (x : FsO w0 w g s p) (k k' : Nm) (hk : k'.length ≤ maxLen) (hcalls : s.calls < 1000000000 - 1) :
    Has Go.Proofs.Tryd.prog 60 #[ptrV g, .string (str k), .string (str k')] w (fun v w' => v = .int .i64 (renameM s k k').2 ∧ ∃ p', FsO w0 w' g (renameM s k k').1 p') := (rename_has g s p k k' w x.at_ hk hcalls).mono fun _ _ h => x.done h
theorem rotO_has {w0 w : World} {g : Nat} {s : FsM} {p : FsP} (x : FsO w0 w g s p) (k : Nm) (sec : Int) (xx : UInt8) :
    Has Go.Proofs.Tryd.prog 20 #[ptrV g, .string (str k), .int .i64 sec, .int .u8 (xx.toNat : Int)] w (fun v w' => v = .int .i64 (rotM s k sec xx).2 ∧ ∃ p', FsO w0 w' g (rotM s k sec xx).1 p') := (rot_has g s p k sec xx w x.at_).mono fun _ _ h => x.done h
theorem readO_has {w0 w : World} {g : Nat} {s : FsM} {p : FsP} (x : FsO w0 w g s p) (k : Nm) :
    Has Go.Proofs.Tryd.prog 19 #[ptrV g, .string (str k)] w (fun v w' => FsO w0 w' g s p ∧ Chg [] w w' ∧ readV (readM s k) w v w') := (read_has g s p k w x.at_).mono fun _ _ ⟨h1, h2⟩ => ⟨x.keep0 h1, h1, h2⟩
theorem crashO_has {w0 w : World} {g : Nat} {s : FsM} {p : FsP} (x : FsO w0 w g s p) (n : Int) {At : Option Addr} {nt ct : Nat} {tails : List Int} (ht : SliceOf Ri64 w (.slice At nt ct) tails) (hcalls : s.calls < 1000000000) :
    Has Go.Proofs.Tryd.prog 25 #[ptrV g, .int .i64 n, .slice At nt ct] w (fun v w' => FsO w0 w' g s p ∧ Chg [] w w' ∧ ∃ gc pc, v = ptrV gc ∧ FsO w w' gc (crashM s n tails) pc) :=
  (crash_has g s p n At nt ct tails w x.at_ ht hcalls).mono fun _ _ ⟨hc, gc, pc, hv, hx, hf⟩ => ⟨x.keep0 hc, hc, gc, pc, hv, hc, hx, hf⟩
theorem roomO_has {w0 w : World} {g : Nat} {s : FsM} {p : FsP} (x : FsO w0 w g s p) (n : Int) : Has Go.Proofs.Tryd.prog 13 #[ptrV g, .int .i64 n] w (fun v w' => FsO w0 w' g { s with room := roomM n } p) :=
  (roomF_has g s p n w x.at_).mono fun _ _ ⟨hc, hx⟩ => ⟨x.chgFp (chg_self hc), hx, x.fresh⟩

theorem fs_eq1 : createM (newM 100) [97] = (⟨100, 1, -1, [⟨[], 0⟩], [([97], 0)], [], [⟨0, [97], [], some 0⟩]⟩, 0) := by rfl
theorem fs_eq2 : appendM ⟨100, 1, -1, [⟨[], 0⟩], [([97], 0)], [], [⟨0, [97], [], some 0⟩]⟩ [97] [120, 121, 122] = (⟨100, 2, -1, [⟨[120, 121, 122], 0⟩], [([97], 0)], [], [⟨0, [97], [], some 0⟩]⟩, 0) := by rfl
end Go.Proofs.YtbhnplghnhafiaaDoor.Tryd
