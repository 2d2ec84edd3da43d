/-
  Go's slices.Sorted(maps.Keys(m)) and maps.Clone(m) at map[int]int: the kit's contracts, laid at this program in plain words; and in the words of maps from integers to integers.
-/
import Derived.Test.YtpbmeeogledmdaeSo
import Derived.Test.YtpbmeeogledmdaeMi
import Derived.Shelf.SlIterI.Sorted
import Derived.Shelf.SlIterI.Keys
import Derived.Shelf.SlMaps.Clone
namespace Go.Proofs.Ytpbmeeogledmdae
open Go.RowKit Go.Shelf Go.Sort

/-- what a map's keys are -/
theorem keys_of {w : World} {b n : Nat} {D : DataW Unit} {m : Int → Option Int} (h : w.ownsMap Try.prog 3 (plainElem Try.prog 3) b n D) (hv : ∀ i : Int, Go.Maps.has D (.int .i64 i) = (m i).isSome) {ss : List Int} (hp : ss.Perm (intKeys D)) :
    ss.Nodup ∧ ∀ r, r ∈ ss ↔ (m r).isSome = true := by
  obtain ⟨es, hD, hpw, _⟩ := h.entries (Go.Maps.int_keyed Try.underlying3)
  obtain ⟨es', hD', hko⟩ := h.keysOf
  obtain rfl : es = es' := by rw [hD] at hD'; simpa using hD'
  subst hD
  have hk : ∀ p ∈ es, ∃ x, p.1 = .int .i64 x := fun p hp => by
    obtain ⟨v, hv⟩ := hko p hp
    obtain ⟨x, _, hx, _⟩ := Maps.keyOf_i64 Try.underlying3 hv
    exact ⟨x, hx⟩
  have hnd : (intKeys (.map es)).Nodup := by
    show (es.map fun p => Go.intOf p.1).Nodup
    refine List.pairwise_map.2 (hpw.imp_of_mem fun {p q} hp' hq' hne e => hne ?_)
    obtain ⟨a, ha⟩ := hk p hp'
    obtain ⟨b, hb⟩ := hk q hq'
    rw [ha, hb] at e ⊢
    exact congrArg _ e
  refine ⟨hp.nodup_iff.2 hnd, fun r => ?_⟩
  rw [hp.mem_iff, ← hv r, Go.Maps.has_eq, List.any_eq_true]
  show r ∈ es.map (fun p => Go.intOf p.1) ↔ _
  rw [List.mem_map]
  constructor
  · rintro ⟨p, hp', rfl⟩
    obtain ⟨a, ha⟩ := hk p hp'
    exact ⟨p, hp', by rw [ha]; simp [Lit.sameKey, Go.intOf]⟩
  · rintro ⟨p, hp', hs⟩
    obtain ⟨a, ha⟩ := hk p hp'
    rw [ha] at hs
    exact ⟨p, hp', by rw [ha]; simpa [Lit.sameKey, Go.intOf] using hs⟩
end Go.Proofs.Ytpbmeeogledmdae
