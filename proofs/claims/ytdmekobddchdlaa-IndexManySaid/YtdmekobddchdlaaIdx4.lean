import Derived.Test.YtdmekobddchdlaaIdx3
import Derived.Test.YtdmekobddchdlaaShelfS
import Derived.Sort.OwnSorted
/-! Index: keys are sorted. -/
set_option linter.unusedVariables false
namespace Go.Vc
open Go
end Go.Vc
namespace Go.Proofs.Ytdmekobddchdlaa.Try
open Go Go.Vc

def sorted (ss : List (List UInt8)) : List (List UInt8) := ss.mergeSort fun x y => decide (x ≤ y)
theorem keyV_enc : keyV = Go.Proofs.encStr := funext fun _ => rfl
theorem sorted_length (ss : List (List UInt8)) : (sorted ss).length = ss.length := List.length_mergeSort _
theorem sortS_has (v : Value) (ss : List (List UInt8)) (w : World) (hown : Own w 9 1 v ss.length (ss.map keyV)) (hpos : 0 < ss.length) (hlen : ss.length ≤ 1000000) :
    Has Go.Proofs.Try.prog 43 #[v] w (fun u w' => u = .tuple #[] ∧ Chg v.ownBlock.toList w w' ∧ Own w' 9 1 v ss.length ((sorted ss).map keyV)) := by
  obtain ⟨g, cap, cur, rfl, hn, hm, hb, hl, ht⟩ := hown.blk hpos
  have hb' := hb
  unfold Blk at hb'
  rw [Nat.mul_one] at ht
  have hc := Go.Proofs.Any.slices_Sort_string Go.Proofs.Try.lays190 g 0 cap ss w (holds_of_block hb' (by rw [← keyV_enc]; exact ht)) hb.lt (by omega)
  refine ⟨⟨_, Go.Proofs.Try.func43, rfl, by decide⟩, Calls.mono hc ?_⟩
  rintro e w' ⟨rfl, n, os, rfl⟩
  refine ⟨_, rfl, rfl, Chg.of_grown (grownBy_sorted _), ?_⟩
  rw [keyV_enc]
  unfold Own
  exact ownsRow_sorted (sorted_length ss) (Nat.zero_le _) hb' hn hm (by simpa using hl)
end Go.Proofs.Ytdmekobddchdlaa.Try
