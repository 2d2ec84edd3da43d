/-
  Go's slices.Sort at integers: the kit's contract, laid at this program in plain words; and in the words of rows that a call made.
-/
import Derived.Test.YtkaoflndbcfodaaGreatEls
import Derived.Shelf.SortM.Plain
import Derived.Shelf.SortM.SortNone
import Derived.Sort.OwnSortedInts
namespace Go.Proofs.YtkaoflndbcfodaaGreat
open Go.RowKit Go.Shelf Go.Sort

def soF : Nat → Nat
  | 5 => 82
  | 7 => 98
  | 8 => 99
  | 10 => 114
  | 11 => 115
  | 12 => 116
  | 13 => 117
  | 14 => 118
  | 15 => 119
  | 16 => 120
  | 17 => 121
  | 18 => 122
  | 19 => 123
  | 20 => 124
  | 30 => 138
  | 31 => 139
  | 32 => 140
  | 33 => 141
  | 34 => 142
  | 35 => 143
  | 40 => 155
  | n => n
def soT : Nat → Nat
  | 0 => 0
  | 3 => 3
  | 4 => 4
  | 5 => 5
  | 9 => 9
  | 22 => 35
  | 23 => 35
  | 25 => 3
  | 32 => 112
  | 35 => 204
  | 36 => 205
  | 41 => 95
  | 44 => 211
  | 46 => 67
  | 53 => 222
  | 57 => 226
  | 63 => 235
  | 64 => 215
  | n => n
def soRen : Go.Shelf.Ren := ⟨soF, soT, fun n => n⟩
set_option maxRecDepth 100000 in
theorem soLays : SlLaysM.n5 Tryz.prog soRen := {
  mixed := by kernel_rfl,
  f5 := ⟨Tryz.f82.name, by decide +kernel, by kernel_rfl⟩,
  f7 := ⟨Tryz.f98.name, by decide +kernel, by kernel_rfl⟩,
  f8 := by kernel_rfl,
  f10 := ⟨Tryz.f114.name, by decide +kernel, by kernel_rfl⟩,
  f11 := ⟨Tryz.f115.name, by decide +kernel, by kernel_rfl⟩,
  f12 := ⟨Tryz.f116.name, by decide +kernel, by kernel_rfl⟩,
  f13 := ⟨Tryz.f117.name, by decide +kernel, by kernel_rfl⟩,
  f14 := ⟨Tryz.f118.name, by decide +kernel, by kernel_rfl⟩,
  f15 := ⟨Tryz.f119.name, by decide +kernel, by kernel_rfl⟩,
  f16 := ⟨Tryz.f120.name, by decide +kernel, by kernel_rfl⟩,
  f17 := ⟨Tryz.f121.name, by decide +kernel, by kernel_rfl⟩,
  f18 := ⟨Tryz.f122.name, by decide +kernel, by kernel_rfl⟩,
  f19 := by kernel_rfl,
  f20 := by kernel_rfl,
  f30 := ⟨Tryz.f138.name, by decide +kernel, by kernel_rfl⟩,
  f31 := by kernel_rfl,
  f32 := by kernel_rfl,
  f33 := ⟨Tryz.f141.name, by decide +kernel, by kernel_rfl⟩,
  f34 := ⟨Tryz.f142.name, by decide +kernel, by kernel_rfl⟩,
  f35 := ⟨Tryz.f143.name, by decide +kernel, by kernel_rfl⟩,
  f40 := ⟨Tryz.f155.name, by decide +kernel, by kernel_rfl⟩,
  t0 := by kernel_rfl,
  a0 := fun _ => by kernel_rfl,
  z0 := fun _ => by kernel_rfl,
  v0 := fun _ => by kernel_rfl,
  t3 := by kernel_rfl,
  a3 := fun _ => by kernel_rfl,
  z3 := fun _ => by kernel_rfl,
  v3 := fun _ => by kernel_rfl,
  t4 := by kernel_rfl,
  a4 := fun _ => by kernel_rfl,
  z4 := fun _ => by kernel_rfl,
  v4 := fun _ => by kernel_rfl,
  t5 := by kernel_rfl,
  a5 := fun _ => by kernel_rfl,
  z5 := fun _ => by kernel_rfl,
  v5 := fun _ => by kernel_rfl,
  t9 := by kernel_rfl,
  a9 := fun _ => by kernel_rfl,
  z9 := fun _ => by kernel_rfl,
  v9 := fun _ => by kernel_rfl,
  t22 := by kernel_rfl,
  a22 := fun _ => by kernel_rfl,
  z22 := fun _ => by kernel_rfl,
  v22 := fun _ => by kernel_rfl,
  t23 := by kernel_rfl,
  a23 := fun _ => by kernel_rfl,
  z23 := fun _ => by kernel_rfl,
  v23 := fun _ => by kernel_rfl,
  t25 := by kernel_rfl,
  a25 := fun _ => by kernel_rfl,
  z25 := fun _ => by kernel_rfl,
  v25 := fun _ => by kernel_rfl,
  t32 := by kernel_rfl,
  a32 := fun _ => by kernel_rfl,
  z32 := fun _ => by kernel_rfl,
  v32 := fun _ => by kernel_rfl,
  t35 := by kernel_rfl,
  a35 := fun _ => by kernel_rfl,
  z35 := fun _ => by kernel_rfl,
  v35 := fun _ => by kernel_rfl,
  t36 := by kernel_rfl,
  a36 := fun _ => by kernel_rfl,
  z36 := fun _ => by kernel_rfl,
  v36 := fun _ => by kernel_rfl,
  t41 := by kernel_rfl,
  a41 := fun _ => by kernel_rfl,
  z41 := fun _ => by kernel_rfl,
  v41 := fun _ => by kernel_rfl,
  t44 := by kernel_rfl,
  a44 := fun _ => by kernel_rfl,
  z44 := fun _ => by kernel_rfl,
  v44 := fun _ => by kernel_rfl,
  t46 := by kernel_rfl,
  a46 := fun _ => by kernel_rfl,
  z46 := fun _ => by kernel_rfl,
  v46 := fun _ => by kernel_rfl,
  t53 := by kernel_rfl,
  a53 := fun _ => by kernel_rfl,
  z53 := fun _ => by kernel_rfl,
  v53 := fun _ => by kernel_rfl,
  t57 := by kernel_rfl,
  a57 := fun _ => by kernel_rfl,
  z57 := fun _ => by kernel_rfl,
  v57 := fun _ => by kernel_rfl,
  t63 := by kernel_rfl,
  a63 := fun _ => by kernel_rfl,
  z63 := fun _ => by kernel_rfl,
  v63 := fun _ => by kernel_rfl,
  t64 := by kernel_rfl,
  a64 := fun _ => by kernel_rfl,
  z64 := fun _ => by kernel_rfl,
  v64 := fun _ => by kernel_rfl }
theorem inV_map (zs : List Int) : (zs.map fun z => [Value.int .i64 z]).flatten = zs.map (Value.int .i64) := by
  induction zs with
  | nil => rfl
  | cons z zs ih => simp [ih]
/-- slices.Sort of a row that the call made -/
theorem sort_calls {w : World} {base : Nat} {v : Value} {zs : List Int} (h : w.ownsRow base 3 1 v zs.length (zs.map (Value.int .i64))) (hl : zs.length ≤ 1000000) :
    Calls Tryz.prog 82 #[v] w fun e w' => e = .returned (.tuple #[]) ∧ w'.ownsRow base 3 1 v zs.length ((zs.mergeSort fun x y => decide (x ≤ y)).map (Value.int .i64)) ∧ w.grownBy w' v.ownBlock := by
  rcases h.2 with ⟨hv, h0⟩ | ⟨g, cap, cur, rfl, hbase, hb, h1, h2, h3, h4⟩
  · subst hv
    have hz : zs = [] := List.length_eq_zero_iff.1 h0
    subst hz
    refine (AnyM.slices_Sort_int_none soLays none 0 w).mono ?_
    rintro e w' ⟨rfl, rfl⟩
    exact ⟨rfl, by simpa using h, ⟨rfl, rfl, rfl, Nat.le_refl _, fun _ _ _ => rfl⟩⟩
  · have hH := holds_of_blockI hb (by simpa using h4)
    have hc := AnyM.slices_Sort_int soLays g 0 cap zs w hH (Array.getElem?_eq_some_iff.1 hb).1 (by omega)
    refine hc.mono ?_
    rintro e w' ⟨rfl, nn, os, rfl⟩
    exact ⟨rfl, ownsRow_sortedI (by simp) hbase hb h1 h2 h3, grownBy_sortedI _⟩
end Go.Proofs.YtkaoflndbcfodaaGreat
