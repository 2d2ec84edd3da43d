/-
  Go's slices.Sorted(maps.Keys(m)) and maps.Clone(m) at map[int]int: the kit's contracts, laid at this program in plain words; and in the words of maps from integers to integers.
-/
import Derived.Test.YtkaoflndbcfodaaGreatSo
import Derived.Test.YtkaoflndbcfodaaGreatMi
import Derived.Shelf.SlIterI.Sorted
import Derived.Shelf.SlIterI.Keys
import Derived.Shelf.SlMaps.Clone
namespace Go.Proofs.YtkaoflndbcfodaaGreat
open Go.RowKit Go.Shelf Go.Sort

def kyF : Nat → Nat
  | 6 => 53
  | 7 => 54
  | 8 => 81
  | 9 => 82
  | 10 => 83
  | 11 => 97
  | n => n
def kyT : Nat → Nat
  | 0 => 0
  | 3 => 3
  | 4 => 4
  | 23 => 86
  | 24 => 35
  | 26 => 3
  | 27 => 120
  | 28 => 121
  | 33 => 69
  | n => n
def kyRen : Go.Shelf.Ren := ⟨kyF, kyT, fun n => n⟩
set_option maxRecDepth 100000 in
theorem ky6 : SlLaysZI.n6 Tryz.prog kyRen := {
  mixed := by kernel_rfl,
  f6 := ⟨Tryz.f53.name, by decide +kernel, by kernel_rfl⟩,
  f8 := ⟨Tryz.f81.name, by decide +kernel, by kernel_rfl⟩,
  f11 := ⟨Tryz.f97.name, by decide +kernel, by kernel_rfl⟩,
  t0 := by kernel_rfl,
  a0 := fun _ => by kernel_rfl,
  z0 := fun _ => by kernel_rfl,
  v0 := fun _ => by kernel_rfl,
  t24 := by kernel_rfl,
  a24 := fun _ => by kernel_rfl,
  z24 := fun _ => by kernel_rfl,
  v24 := fun _ => by kernel_rfl,
  t26 := by kernel_rfl,
  a26 := fun _ => by kernel_rfl,
  z26 := fun _ => by kernel_rfl,
  v26 := fun _ => by kernel_rfl,
  t28 := by kernel_rfl,
  a28 := fun _ => by kernel_rfl,
  z28 := fun _ => by kernel_rfl,
  v28 := fun _ => by kernel_rfl,
  i26 := by kernel_rfl }
set_option maxRecDepth 100000 in
theorem ky7 : SlLaysZI.n7 Tryz.prog kyRen := {
  mixed := by kernel_rfl,
  f7 := ⟨Tryz.f54.name, by decide +kernel, by kernel_rfl⟩,
  f10 := ⟨Tryz.f83.name, by decide +kernel, by kernel_rfl⟩,
  t0 := by kernel_rfl,
  a0 := fun _ => by kernel_rfl,
  z0 := fun _ => by kernel_rfl,
  v0 := fun _ => by kernel_rfl,
  t4 := by kernel_rfl,
  a4 := fun _ => by kernel_rfl,
  z4 := fun _ => by kernel_rfl,
  v4 := fun _ => by kernel_rfl,
  t23 := by kernel_rfl,
  a23 := fun _ => by kernel_rfl,
  z23 := fun _ => by kernel_rfl,
  v23 := fun _ => by kernel_rfl,
  t26 := by kernel_rfl,
  a26 := fun _ => by kernel_rfl,
  z26 := fun _ => by kernel_rfl,
  v26 := fun _ => by kernel_rfl,
  t27 := by kernel_rfl,
  a27 := fun _ => by kernel_rfl,
  z27 := fun _ => by kernel_rfl,
  v27 := fun _ => by kernel_rfl,
  t28 := by kernel_rfl,
  a28 := fun _ => by kernel_rfl,
  z28 := fun _ => by kernel_rfl,
  v28 := fun _ => by kernel_rfl,
  t33 := by kernel_rfl,
  a33 := fun _ => by kernel_rfl,
  z33 := fun _ => by kernel_rfl,
  v33 := fun _ => by kernel_rfl }
/-- what a map's keys are -/
theorem keys_of {w : World} {b n : Nat} {D : DataW Unit} {m : Int → Option Int} (h : w.ownsMap Tryz.prog 3 (plainElem Tryz.prog 3) b n D) (hv : ∀ i : Int, Go.Maps.has D (.int .i64 i) = (m i).isSome) {ss : List Int} (hp : ss.Perm (intKeys D)) :
    ss.Nodup ∧ ∀ r, r ∈ ss ↔ (m r).isSome = true := by
  obtain ⟨es, hD, hpw, _⟩ := h.entries (Go.Maps.int_keyed Tryz.underlying3)
  obtain ⟨es', hD', hko⟩ := h.keysOf
  obtain rfl : es = es' := by rw [hD] at hD'; simpa using hD'
  subst hD
  have hk : ∀ p ∈ es, ∃ x, p.1 = .int .i64 x := fun p hp => by
    obtain ⟨v, hv⟩ := hko p hp
    obtain ⟨x, _, hx, _⟩ := Maps.keyOf_i64 Tryz.underlying3 hv
    exact ⟨x, hx⟩
  have hnd : (intKeys (.map es)).Nodup := by
    show (es.map fun p => Go.intOf p.1).Nodup
    refine List.pairwise_map.2 (hpw.imp_of_mem fun {p q} hp' hq' hne e => hne ?_)
    obtain ⟨a, ha⟩ := hk p hp'
    obtain ⟨b, hb⟩ := hk q hq'
    rw [ha, hb] at e ⊢
    exact congrArg _ e
  refine ⟨hp.nodup_iff.2 hnd, fun r => ?_⟩
  rw [hp.mem_iff, ← hv r, Go.Maps.has_eq, List.any_eq_true]
  show r ∈ es.map (fun p => Go.intOf p.1) ↔ _
  rw [List.mem_map]
  constructor
  · rintro ⟨p, hp', rfl⟩
    obtain ⟨a, ha⟩ := hk p hp'
    exact ⟨p, hp', by rw [ha]; simp [Lit.sameKey, Go.intOf]⟩
  · rintro ⟨p, hp', hs⟩
    obtain ⟨a, ha⟩ := hk p hp'
    rw [ha] at hs
    exact ⟨p, hp', by rw [ha]; simpa [Lit.sameKey, Go.intOf] using hs⟩
theorem kySorts (m : Nat) : AnyZI.SortsIn Tryz.prog kyRen Fence.wide m :=
  ⟨fun blk off cap ss W hH hblk hsz => callsIn_wide.2 (AnyM.slices_Sort_int soLays blk off cap ss W hH hblk hsz),
   fun p cap W => callsIn_wide.2 (AnyM.slices_Sort_int_none soLays p cap W)⟩
/-- maps.Keys: a function value over a block that holds the map -/
theorem kyKeys (n : Nat) (mb : Option Nat) (W : World) : CallsIn Fence.wide n Tryz.prog 54 #[.map mb] W fun e w' => e = .returned (.func (.func 83) #[] #[.pointer (some ⟨W.heap.size, 0, none⟩)]) ∧ w' = W.alloc (.cells #[.map mb] 86) :=
  AnyZI.keys_in ky7 Fence.wide n trivial rfl mb W
/-- slices.Sorted at what that handed back -/
theorem kySorted {W : World} {b nn : Nat} {m : Int → Option Int} (h : MapV Tryz.prog 3 3 W b nn m) (hn : nn ≤ 100000) {g : Nat} (hg : W.cell? ⟨g, 0, none⟩ = some (.map (some b))) :
    CallsIn Fence.wide 5 Tryz.prog 53 #[.func (.func 83) #[] #[.pointer (some ⟨g, 0, none⟩)]] W fun e w' => ∃ (v : Value) (ss : List Int), e = .returned v ∧ (ss.Nodup ∧ ∀ r, r ∈ ss ↔ (m r).isSome = true) ∧
      w'.ownsRow W.heap.size 3 1 v ss.length ((ss.mergeSort (fun x y => decide (x ≤ y))).map (Value.int .i64)) ∧ Below W.heap.size W w' := by
  obtain ⟨D, h, hv⟩ := h
  have hsz : Go.Maps.size D ≤ nn := by
    obtain ⟨es, clock, _, _, hs, rfl⟩ := h
    simpa [Go.Maps.size, DataW.length_sorted] using hs
  have hseq : SeqGives Fence.wide 2 Tryz.prog 83 #[.pointer (some ⟨g, 0, none⟩)] encZ (fun ss => ss.Perm (intKeys D)) (Go.Maps.size D) W :=
    AnyZI.keys_gives (ρ := kyRen) { ky7 with } Fence.wide _ trivial rfl (by omega) g b nn D W (World.block_lt_of_cell? W _ hg) hg h
  have cS := AnyZI.sorted_in ky6 Fence.wide 5 trivial trivial trivial trivial rfl (by omega) (kySorts _) (enters_of Tryz.func82 (by kernel_rfl) rfl) 83 #[.pointer (some ⟨g, 0, none⟩)] trivial (enters_of Tryz.func83 (by kernel_rfl) rfl) _ _ (by unfold maxLen; omega) (by omega) _ hseq
  refine cS.mono ?_
  rintro e w' ⟨v, ss, rfl, hp, hO, _, hb⟩
  exact ⟨v, ss, rfl, keys_of h (fun i => (hv i).2) hp, hO, hb⟩
end Go.Proofs.YtkaoflndbcfodaaGreat
