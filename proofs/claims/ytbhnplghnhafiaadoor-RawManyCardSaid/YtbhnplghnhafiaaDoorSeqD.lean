import Derived.Test.YtbhnplghnhafiaaDoorVcTypes
import Derived.Test.YtbhnplghnhafiaaDoorVcPlus
import Derived.Test.YtbhnplghnhafiaaDoorShelfD
/-! The library: a map's keys sorted; a map's copy. -/
set_option linter.unusedVariables false
namespace Go.Vc
open Go Go.RowKit Go.Maps Go.Proofs
theorem keyV_enc : keyV = Go.Proofs.encStr := funext fun _ => rfl
/-- A map with texts for keys, as the kit's walks over maps ask for it. -/
theorem MapAt.owns {P : Program} {β : Type} {bv : β → Value} {f : List UInt8 → Option β} {w : World} {r : Nat} {kt : TypeId} (hk : P.underlying kt = some .string) (hm : MapAt keyV bv w r f) (B : List (List UInt8))
    (hB : ∀ k, (f k).isSome = true → k ∈ B ∧ k.length ≤ maxLen) (hBl : B.length ≤ 1000000) :
    ∃ (D : DataW Unit) (nn : Nat), w.ownsMap P kt (fun _ => some (.lit (.bool true), [])) r nn D ∧ Maps.size D ≤ B.length ∧ ∀ ss : List (List UInt8), ss.Perm (strKeys D) → ss.Nodup ∧ ∀ k, k ∈ ss ↔ (f k).isSome = true := by
  obtain ⟨es, clk, h1, h2, h3, h4⟩ := hm
  let R : Value → Option (DataW Unit × List MemPlace) := fun _ => some (.lit (.bool true), [])
  have hrd : ∀ e ∈ es.toList, ∃ k, e.key = keyV k ∧ (f k).isSome = true ∧ WideElems.rd P kt R e = some (.string k, .lit (.bool true)) := fun e he => by
    obtain ⟨k, b, e1, e2, e3⟩ := h3 e he
    have hs : (f k).isSome = true := by rw [e3]; rfl
    refine ⟨k, e1, hs, ?_⟩
    have hl := (hB k hs).2
    unfold WideElems.rd keyOf
    rw [hk, e1]
    simp only
    unfold mapKey keyV
    rw [hk]
    simp only [str_size]
    rw [if_pos hl]
    simp [str, R]
  have hL : (es.toList.map fun e => strOf (WideElems.rg P kt R e).1).map keyV = es.toList.map (·.key) := by
    rw [List.map_map]
    refine List.map_congr_left fun e he => ?_
    obtain ⟨k, e1, _, e3⟩ := hrd e he
    simp only [Function.comp]
    rw [WideElems.rg_of e3, e1]
    rfl
  have hnd : (es.toList.map fun e => strOf (WideElems.rg P kt R e).1).Nodup := by
    have := h2.2.2
    rw [← hL] at this
    exact (List.pairwise_map.1 this).imp (fun hne e => hne (by rw [e]))
  have hmem : ∀ k, k ∈ (es.toList.map fun e => strOf (WideElems.rg P kt R e).1) ↔ (f k).isSome = true := fun k => by
    rw [List.mem_map]
    constructor
    · rintro ⟨e, he, rfl⟩
      obtain ⟨k, e1, e2, e3⟩ := hrd e he
      rw [WideElems.rg_of e3]; exact e2
    · intro hk'
      obtain ⟨b, hb⟩ := Option.isSome_iff_exists.1 hk'
      obtain ⟨e, he, hek⟩ := h4 k b hb
      obtain ⟨k', e1, e2, e3⟩ := hrd e he
      refine ⟨e, he, ?_⟩
      rw [WideElems.rg_of e3]
      exact strKey.inj _ _ (e1.symm.trans hek)
  have hlen : es.size ≤ B.length := by
    have := nodup_length _ B hnd (fun k hk' => (hB k ((hmem k).1 hk')).1)
    simpa using this
  refine ⟨.map ((es.toList.map (WideElems.rg P kt R)).foldr DataW.insert []), es.size, ⟨es, clk, h1, ⟨by unfold maxLen; omega, h2, fun x hx => by obtain ⟨k, _, _, e3⟩ := hrd x hx; exact ⟨_, e3⟩⟩, Nat.le_refl _, rfl⟩, ?_, fun ss hss => ?_⟩
  · show List.length _ ≤ _
    rw [(WideShapes.sorted_perm _).length_eq]; simpa using hlen
  · have hp : (strKeys (.map ((es.toList.map (WideElems.rg P kt R)).foldr DataW.insert []))).Perm (es.toList.map fun e => strOf (WideElems.rg P kt R e).1) := by
      show (List.map _ _).Perm _
      have := (WideShapes.sorted_perm (es.toList.map (WideElems.rg P kt R))).map (fun p => strOf p.1)
      rw [List.map_map] at this
      exact this
    have h5 := hss.trans hp
    exact ⟨h5.nodup_iff.2 hnd, fun k => by rw [h5.mem_iff]; exact hmem k⟩
end Go.Vc
namespace Go.Proofs.YtbhnplghnhafiaaDoor.Tryd
open Go Go.Vc Go.RowKit Go.Maps Go.Sort Go.Shelf

theorem keysD_has (b : Nat) (w : World) : Has Go.Proofs.Tryd.prog 47 #[.map (some b)] w
    (fun v w' => v = .func (.func 68) #[] #[.pointer (some ⟨w.heap.size, 0, none⟩)] ∧ w' = w.alloc (.cells #[.map (some b)] 53)) := by
  refine ⟨⟨_, Go.Proofs.Tryd.func47, rfl, by decide⟩, (callsIn_wide.1 (AnyZ.keys_in Go.Proofs.Tryd.keysA Fence.wide 5 trivial rfl (some b) w)).mono ?_⟩
  rintro e w' ⟨rfl, rfl⟩
  exact ⟨_, rfl, rfl, rfl⟩
theorem sortsD (m : Nat) : AnyZ.SortsIn Go.Proofs.Tryd.prog Go.Proofs.Tryd.sortedA_ren Fence.wide m :=
  ⟨fun blk off cap ss W hH hblk hsz => callsIn_wide.2 (AnyM.slices_Sort_string Go.Proofs.Tryd.sortA blk off cap ss W hH hblk hsz),
   fun p cap W => callsIn_wide.2 (AnyM.slices_Sort_string_none Go.Proofs.Tryd.sortA p cap W)⟩
set_option maxHeartbeats 1000000 in
theorem sortedD_has {β : Type} {bv : β → Value} {f : List UInt8 → Option β} {w : World} {b : Nat} (hm : MapAt keyV bv w b f) (B : List (List UInt8)) (hB : ∀ k, (f k).isSome = true → k ∈ B ∧ k.length ≤ maxLen) (hBl : B.length ≤ 1000000) :
    Has Go.Proofs.Tryd.prog 46 #[.func (.func 68) #[] #[.pointer (some ⟨w.heap.size, 0, none⟩)]] (w.alloc (.cells #[.map (some b)] 53))
    (fun v w' => Chg [] w w' ∧ ∃ ss : List (List UInt8), ss.Nodup ∧ (∀ k, k ∈ ss ↔ (f k).isSome = true) ∧ Own w' 9 1 v ss.length ((sorted ss).map keyV) ∧ (∀ g, v.ownBlock = some g → w.heap.size ≤ g)) := by
  obtain ⟨D, nn, hown, hsize, hD⟩ := hm.owns (P := Go.Proofs.Tryd.prog) Go.Proofs.Tryd.underlying9 B hB hBl
  have hbl := hown.lt
  have hseq : SeqGives Fence.wide 2 Go.Proofs.Tryd.prog 68 #[.pointer (some ⟨w.heap.size, 0, none⟩)] encStr (fun ss => ss.Perm (strKeys D)) (Maps.size D) (w.alloc (.cells #[.map (some b)] 53)) :=
    AnyZ.keys_gives (ρ := Go.Proofs.Tryd.keysA_ren) { Go.Proofs.Tryd.keysA with } Fence.wide _ trivial rfl (by omega) w.heap.size b nn D _ (by simp) (by simp) (by
      obtain ⟨es, clock, hb, Ft, hs, hD⟩ := hown
      exact ⟨es, clock, (Below.heap_alloc _ _ b hbl).trans hb, Ft, hs, hD⟩)
  have hc := AnyZ.sorted_in Go.Proofs.Tryd.sortedA Fence.wide 5 trivial trivial trivial trivial rfl (by omega) (sortsD _) (enters_of Go.Proofs.Tryd.func67 (by kernel_rfl) rfl) 68 #[.pointer (some ⟨w.heap.size, 0, none⟩)] trivial (enters_of Go.Proofs.Tryd.func68 (by kernel_rfl) rfl) _ _ (by unfold maxLen; omega) (by omega) _ hseq
  refine ⟨⟨_, Go.Proofs.Tryd.func46, rfl, by decide⟩, (callsIn_wide.1 hc).mono ?_⟩
  rintro e w' ⟨v, ss, rfl, hp, hrow, hnil, hb⟩
  obtain ⟨h1, h2⟩ := hD ss hp
  have hf : ∀ g, v.ownBlock = some g → w.heap.size ≤ g := fun g hg => by
    have := (World.ownsRow.lt hrow g hg).1
    simp at this; omega
  refine ⟨v, rfl, (Chg.alloc w _).trans (Chg.of_below hb) (fun _ h _ => h), ss, h1, h2, ?_, hf⟩
  unfold Own
  rw [keyV_enc]
  exact ⟨hrow.1, hrow.2.imp id (fun ⟨g, cap, cur, e1, e2, e3⟩ => ⟨g, cap, cur, e1, Nat.zero_le _, e3⟩)⟩

theorem cloneD_has {κ β : Type} {kv : κ → Value} {bv : β → Value} {f : κ → Option β} {w : World} {b : Nat} (hm : MapAt kv bv w b f) :
    Has Go.Proofs.Tryd.prog 44 #[.map (some b)] w (fun v w' => ∃ b', v = .map (some b') ∧ w.heap.size ≤ b' ∧ Chg [] w w' ∧ MapAt kv bv w' b' f) := by
  obtain ⟨es, clk, h1, h2⟩ := hm
  refine ⟨⟨_, Go.Proofs.Tryd.func44, rfl, by decide⟩, (AnyW.maps_Clone Go.Proofs.Tryd.cloneM b es clk w h1).mono ?_⟩
  rintro e w' ⟨rfl, rfl⟩
  exact ⟨_, rfl, w.heap.size, rfl, Nat.le_refl _, Chg.alloc w _, es, clk, (MapKept.heap_alloc w _).1, h2⟩
end Go.Proofs.YtbhnplghnhafiaaDoor.Tryd
