/-
  Generic lemmas, of no program: copy out of a string into a block of the call's own; small facts on blocks.
-/
import Derived.Test.YtcdpiemkbefcoaaIter
import Derived.WalkSpells
import Derived.WalkLawsBesides
import Derived.Outline
import Derived.Deep.QuietTactic
import Derived.BigQuiet
import Derived.Lib.Hide
import Derived.Lib.BufferWrite
import Derived.Laws.CopyOwn
import Derived.Lib.QuoteBits
namespace Go.Proofs.Ytcdpiemkbefcoaa
open Go.RowKit

theorem setRow_alloc (w : World) (c c' : Array Value) (t : TypeId) : (w.alloc (.cells c t)).setRow w.heap.size c' = w.alloc (.cells c' t) := by
  have hm : ∀ (a : Array Obj) (x : Obj) (f : Obj → Obj), (a.push x).modify a.size f = a.push (f x) := by
    intro a x f
    apply Array.ext
    · simp
    · intro i h1 h2
      simp only [Array.getElem_modify, Array.getElem_push]
      by_cases h : a.size = i
      · subst h; simp
      · have hi : i < a.size := by simp at h1; omega
        simp [h, hi]
  show ({ w.alloc (.cells c t) with heap := (w.heap.push (.cells c t)).modify w.heap.size _ } : World) = _
  rw [hm]
  rfl

/-- 'copy(dst, s)', s a string: as many bytes as the shorter of the two has go over. -/
theorem run_copy_string_row {P : Program} (w : World) (dT sT ty elem : TypeId) (g o dLen dCap : Nat) (s : ByteArray) (cur : Array Value) (t : TypeId) (n : Nat)
    (hu : P.underlying dT = some (.slice elem)) (hs : (P.info? elem).map (·.size) = some 1) (hg : w.heap[g]? = some (.cells cur t (0, 0))) (hn : Nat.min s.size dLen = n) (hfit : o + n ≤ cur.size) :
    (Builtin.copy_ #[dT, sT] ty #[.slice (some ⟨g, o, none⟩) dLen dCap, .string s]).run P w =
      .ok (goInt n) (w.setRow g (cur.toList.take o ++ Lib.byteCells (s.data.toList.take n) ++ cur.toList.drop (o + n)).toArray) := by
  have hns : n ≤ s.size := hn ▸ Nat.min_le_left _ _
  have hlen : (Lib.byteCells (s.data.toList.take n)).length = n := by rw [Lib.byteCells_length, List.length_take, ← Lib.size_eq]; omega
  have hst := run_storeCells_at P g o t (Lib.byteCells (s.data.toList.take n)) 0 cur w hg (by rw [hlen]; simpa using hfit) (Lib.byteCells_one _)
  have htk : List.take n (List.map (fun b : UInt8 => Value.int IntKind.u8 (b.toNat : Int)) s.data.toList) = Lib.byteCells (s.data.toList.take n) := by
    rw [← List.map_take]; rfl
  rw [hlen] at hst
  simp only [Nat.add_zero] at hst
  cases hq : P.info? elem with
  | none => simp [hq] at hs
  | some i =>
    simp [Builtin.copy_, run_underlying hu, Builtin.lenOf, Builtin.firstCells, sizeOf, typeInfo, hq, hn]
    rw [htk, hst]
    simp [Result.andThen]

/-- The same where the whole of a block that was just laid is written over. -/
theorem run_copy_string_new {P : Program} (w : World) (dT sT ty elem : TypeId) (dCap : Nat) (s : ByteArray) (cur : Array Value) (t : TypeId)
    (hu : P.underlying dT = some (.slice elem)) (hs : (P.info? elem).map (·.size) = some 1) (hn : cur.size ≤ s.size) :
    (Builtin.copy_ #[dT, sT] ty #[.slice (some ⟨w.heap.size, 0, none⟩) cur.size dCap, .string s]).run P (w.alloc (.cells cur t)) =
      .ok (goInt cur.size) (w.alloc (.cells (Lib.byteCells (s.data.toList.take cur.size)).toArray t)) := by
  rw [run_copy_string_row (w.alloc (.cells cur t)) dT sT ty elem w.heap.size 0 cur.size dCap s cur t cur.size hu hs (World.alloc_heap_new w _) (Nat.min_eq_right hn) (by simp), setRow_alloc, List.drop_eq_nil_of_le (by simp)]
  simp

theorem take3 (s : ByteArray) (h : 3 ≤ s.size) : (Lib.byteCells (s.data.toList.take 3)).toArray = #[.int .u8 s[0].toNat, .int .u8 s[1].toNat, .int .u8 s[2].toNat] := by
  have e : s.data.toList.take 3 = [s[0], s[1], s[2]] := by
    have h' : 3 ≤ s.data.toList.length := by simpa using h
    apply List.ext_getElem
    · simp; omega
    · intro i h1 h2
      simp at h2
      rcases i with _ | _ | _ | i <;> simp <;> first | rfl | omega
  rw [e]; rfl

theorem toList_nil {s : ByteArray} (h : s.size = 0) : s.toList = [] := by
  rw [ByteArray.toList_eq]; apply List.eq_nil_of_length_eq_zero; simpa using h
theorem toList_cons {s : ByteArray} (h : ¬ s.size = 0) : s.toList.isEmpty = false := by
  rw [ByteArray.toList_eq]
  cases e : s.data.toList with
  | nil => exfalso; apply h; have := congrArg List.length e; simpa using this
  | cons a l => rfl

/-- 'b << 8 | c' of two bytes. -/
theorem or_i64_byte (b c : Int) (hb : 0 ≤ b ∧ b < 256) (hc : 0 ≤ c ∧ c < 256) : bits .or .i64 (b * 256) c = b * 256 + c := by
  obtain ⟨B, rfl⟩ := Int.eq_ofNat_of_zero_le hb.1
  obtain ⟨C, rfl⟩ := Int.eq_ofNat_of_zero_le hc.1
  have e : ((B : Int) * 256) = ((B * 256 : Nat) : Int) := by omega
  show IntKind.i64.wrap ((BitVec.ofInt 64 ((B : Int) * 256) ||| BitVec.ofInt 64 (C : Int)).toNat : Int) = _
  rw [e, BitVec.toNat_or, ofInt_u64 _ (by omega), ofInt_u64 _ (by omega)]
  have h := nat_join8' (B * 256) C (by omega) (by omega)
  rw [Nat.or_comm, h, IntWalk.i64_in _ (by omega)]
  omega

end Go.Proofs.Ytcdpiemkbefcoaa
