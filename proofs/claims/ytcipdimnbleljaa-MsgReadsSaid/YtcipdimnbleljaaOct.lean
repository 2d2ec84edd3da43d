/-
  Layer 16 (octet): the program's Put, Get.
-/
import Derived.Test.YtcipdimnbleljaaFr2
import Derived.Deep.OwnRows
import Derived.Deep.DeepCutAuto
import Derived.Deep.RegionLaw
import Derived.Laws.OwnMore
namespace Go.Proofs.Ytcipdimnbleljaa
open Go.RowKit

theorem wide_calls (k : Int) (w : World) (h0 : 1 ≤ k) (h1 : k ≤ 8) :
    Calls Try.prog 83 #[.int .i64 k] w fun e w' => e = .returned (.bool true) ∧ w = w' := by
  go_enter Try.func83, Try.ntmps83
  go_wp2
  go_ret
  exact ⟨rfl, rfl⟩
theorem wide_not (k : Int) (w : World) (h : k < 1 ∨ 8 < k) :
    Calls Try.prog 83 #[.int .i64 k] w fun e w' => e = .returned (.bool false) ∧ w = w' := by
  rcases h with h | h
  · have h' : ¬ 1 ≤ k := by omega
    go_enter Try.func83, Try.ntmps83
    go_wp2
    go_ret
    exact ⟨rfl, rfl⟩
  · have h' : 1 ≤ k := by omega
    have h'' : ¬ k ≤ 8 := by omega
    go_enter Try.func83, Try.ntmps83
    go_wp2
    go_ret
    exact ⟨rfl, rfl⟩


theorem strOfNums_bytes (s : ByteArray) (l : List Int) : strOfNums (s.data.toList.map (fun b => (b.toNat : Int)) ++ l) = s ++ strOfNums l := by
  have h1 : strOfNums (s.data.toList.map fun b => (b.toNat : Int)) = s := by
    apply ByteArray.ext; apply Array.toList_inj.1
    rw [strOfNums_data, List.map_map]
    apply List.ext_getElem (by simp)
    intro i h1 h2; simp
  apply ByteArray.ext
  apply Array.toList_inj.1
  rw [strOfNums_data, List.map_append, ByteArray.data_append, Array.toList_append, strOfNums_data]
  congr 1
  have := congrArg (fun x : ByteArray => x.data.toList) h1
  simpa [strOfNums_data] using this

set_option maxRecDepth 10000 in
/-- 'copy(out, s)' into a longer row that was just made. -/
theorem copy_made (w : World) (s : ByteArray) (k : Nat) (cs : Array Value) (t : TypeId) :
    (Builtin.copy_ #[26, 9] 3 #[.slice (some ⟨w.heap.size + 1, 0, none⟩) (s.size + k) (s.size + k), .string s]).run Try.prog ((w.alloc (.cells cs t)).alloc (.cells (madeCells #[.int .u8 0] (s.size + k)) 5)) =
      .ok (goInt s.size) ((w.alloc (.cells cs t)).alloc (.cells (Lib.byteCells s.data.toList ++ List.replicate k (Value.int .u8 0)).toArray 5)) := by
  have h := run_copy_string_row (P := Try.prog) ((w.alloc (.cells cs t)).alloc (.cells (madeCells #[.int .u8 0] (s.size + k)) 5)) 26 9 3 5 (w.alloc (.cells cs t)).heap.size 0 (s.size + k) (s.size + k) s (madeCells #[.int .u8 0] (s.size + k)) 5 s.size Try.underlying26 (by kernel_rfl) (World.alloc_heap_new _ _) (Nat.min_eq_left (by omega)) (by rw [size_madeCells]; omega)
  rw [setRow_alloc] at h
  have e : (w.alloc (.cells cs t)).heap.size = w.heap.size + 1 := by show (w.heap.push _).size = _; simp
  rw [e] at h
  rw [h]
  congr 3
  have hl : s.data.toList.take s.size = s.data.toList := List.take_of_length_le (by simp)
  rw [hl]
  congr 1
  have hm : (madeCells #[Value.int .u8 0] (s.size + k)).toList = List.replicate (s.size + k) (Value.int .u8 0) := toList_madeCells_one _ _
  rw [hm, List.drop_replicate]
  simp

theorem below_two (w : World) (o1 o2 : Obj) : Below w.heap.size w ((w.alloc o1).alloc o2).drew := by
  have h := (Below.refl w.heap.size w).alloc (Nat.le_refl _) o1
  exact (h.alloc h.size o2).drew

theorem two_row (w : World) (o : Obj) (X : Array Value) (t : TypeId) : ((w.alloc o).alloc (.cells X t)).drew.heap[w.heap.size + 1]? = some (.cells X t (0, 0)) := by
  show ((w.heap.push o).push _)[w.heap.size + 1]? = _
  have e : w.heap.size + 1 = (w.heap.push o).size := by simp
  rw [e, Array.getElem?_push_size]

theorem all_cells (w : World) (C : Array Value) (t : TypeId) (o : Obj) (off j : Nat) (v : Value) (h : C[off + j]? = some v) :
    ((w.alloc (.cells C t)).alloc o).drew.cell? (Addr.add ⟨w.heap.size, off, none⟩ j) = some v := by
  have e : Addr.add ⟨w.heap.size, off, none⟩ j = ⟨w.heap.size, off + j, none⟩ := by unfold Addr.add; split <;> simp_all
  rw [e]
  have h1 : ((w.alloc (.cells C t)).alloc o).drew.heap[w.heap.size]? = some (.cells C t (0, 0)) := by
    show ((w.heap.push _).push _)[w.heap.size]? = _
    rw [Array.getElem?_push_lt (by simp)]
    simp
  simp [World.cell?, h1, h]

theorem nums_one (l : List Int) : ∀ v ∈ l.map (Value.int .u8), v.oneCell' = true := by
  intro v hv
  obtain ⟨n, -, rfl⟩ := List.mem_map.1 hv
  rfl

/-- 'string(out)' behind both copies. -/
theorem put_back (W : World) (b : Nat) (s : ByteArray) (k : Nat) (l : List Int) (hl : l.length = k)
    (h : W.heap[b]? = some (.cells (splice (Lib.byteCells s.data.toList ++ List.replicate k (Value.int .u8 0)) s.size (l.map (Value.int .u8))).toArray 5 (0, 0))) :
    (convert 26 9 (.slice (some ⟨b, 0, none⟩) (s.size + k) (s.size + k))).run Try.prog W = .ok (.string (s ++ strOfNums l)) W := by
  have e : splice (Lib.byteCells s.data.toList ++ List.replicate k (Value.int .u8 0)) s.size (l.map (Value.int .u8)) = (s.data.toList.map (fun b => (b.toNat : Int)) ++ l).map (Value.int .u8) := by
    have h1 : (Lib.byteCells s.data.toList).length = s.size := by rw [Lib.byteCells_length, ← Lib.size_eq]
    rw [splice, List.take_left' h1, List.drop_eq_nil_of_le (by simp [h1, hl])]
    simp [Lib.byteCells, Function.comp_def]
  rw [e] at h
  have hlen : (s.data.toList.map (fun b => (b.toNat : Int)) ++ l).length = s.size + k := by simp [hl]
  rw [run_convert_bytes_arg W 26 5 Try.underlying26 Try.underlying5 b 0 (s.size + k) (s.size + k) _ hlen ?_ 9 Try.underlying9, strOfNums_bytes]
  intro i hi
  rw [← hlen] at hi
  simp only [World.cell?, h, Nat.zero_add]
  simp only [List.getElem?_toArray, List.getElem?_map, List.getD_eq_getElem?_getD, List.getElem?_eq_getElem hi]
  rfl

set_option maxHeartbeats 2000000 in
set_option maxRecDepth 100000 in
theorem put1_calls (s : ByteArray) (n : Int) (w : World) (hs : s.size ≤ 140737488351232) (h0 : 0 ≤ n) (h1 : n < 256) :
    Calls Try.prog 82 #[.string s, .int .u64 n, .int .i64 1] w fun e w' => e = .returned (.tuple #[.string (s ++ strOfNums [n]), .int .i64 0]) ∧ Below w.heap.size w w' := by
  have hmk := fun wx => run_make_row' (P := Try.prog) 26 5 (.int .u8 0) 1 Try.underlying26 (by kernel_rfl) rfl .i64 .i64 (s.size + 1) (by omega) (by omega) wx
  have hcp := fun cs => copy_made w s 1 cs 150
  have hle : (s.size : Int) ≤ (s.size : Int) + 1 := by omega
  have hwr : IntKind.i64.wrap 7 = 7 := by decide
  have ec : ((s.size + 1 : Nat) : Int) = (s.size : Int) + 1 := by omega
  rw [ec] at hmk
  clear ec
  go_enter Try.func82, Try.ntmps82
  go_wp2_with fail
  refine (wide_calls 1 _ (by omega) (by omega)).mono ?_
  rintro e w' ⟨rfl, rfl⟩
  go_wp2_with fail
  refine wp_loop_rounds 9 ?_
  rw [rounds_succ]; go_wp2_with fail
  rw [rounds_succ]; go_wp2_with fail
  rw [rounds_succ]; go_wp2_with fail
  rw [rounds_succ]; go_wp2_with fail
  rw [rounds_succ]; go_wp2_with fail
  rw [rounds_succ]; go_wp2_with fail
  rw [rounds_succ]; go_wp2_with fail
  rw [rounds_succ]; go_wp2_with fail
  rw [rounds_succ]; go_wp2_with fail
  refine wp_loop_rounds 8 ?_
  rw [rounds_succ]; go_wp2_with fail
  rw [rounds_succ]; go_wp2_with fail
  rw [rounds_succ]; go_wp2_with fail
  rw [rounds_succ]; go_wp2_with fail
  rw [rounds_succ]; go_wp2_with fail
  rw [rounds_succ]; go_wp2_with fail
  rw [rounds_succ]; go_wp2_with fail
  rw [rounds_succ]; go_wp2_with fail
  go_region_law (refine step_copy_splice rfl (.tmp 52) (.tmp 55) 26 26 rfl 5 Try.underlying26 (by kernel_rfl) (some ⟨w.heap.size + 1, s.size, none⟩) (some ⟨w.heap.size, 7, none⟩) 1 1 1 1 (by simp [Act.eval, Act.put]) (by simp [Act.eval, Act.put]) (w.heap.size + 1) s.size (Lib.byteCells s.data.toList ++ List.replicate 1 (.int .u8 0)) 5 (two_row _ _ _ _) ([n].map (Value.int .u8)) (by simp) (fun _ => ⟨rfl, _, rfl, fun j v hj => all_cells _ _ _ _ _ _ _ (by rcases j with _ | _ | _ | _ | _ | _ | _ | _ | j <;> simp at hj ⊢ <;> exact hj)⟩) (by simp [Lib.byteCells]) (nums_one _) w.heap.size w (below_two _ _ _) (by omega) ?_; intro W2 hW2 hb2)
  have hcv := put_back W2 (w.heap.size + 1) s 1 [n] rfl hW2.out
  go_wp2
  exact bodyPost_ret (v := .tuple #[.string (s ++ strOfNums [n]), .int .i64 0]) (by simp [results, Try.results82, go_sem]) rfl ⟨rfl, hb2⟩
set_option maxHeartbeats 2000000 in
set_option maxRecDepth 100000 in
theorem put2_calls (s : ByteArray) (n : Int) (w : World) (hs : s.size ≤ 140737488351232) (h0 : 0 ≤ n) (h1 : n < 65536) :
    Calls Try.prog 82 #[.string s, .int .u64 n, .int .i64 2] w fun e w' => e = .returned (.tuple #[.string (s ++ strOfNums [n / 256, n % 256]), .int .i64 0]) ∧ Below w.heap.size w w' := by
  have hmk := fun wx => run_make_row' (P := Try.prog) 26 5 (.int .u8 0) 1 Try.underlying26 (by kernel_rfl) rfl .i64 .i64 (s.size + 2) (by omega) (by omega) wx
  have hcp := fun cs => copy_made w s 2 cs 150
  have hle : (s.size : Int) ≤ (s.size : Int) + 2 := by omega
  have hwr : IntKind.i64.wrap 6 = 6 := by decide
  have ec : ((s.size + 2 : Nat) : Int) = (s.size : Int) + 2 := by omega
  rw [ec] at hmk
  clear ec
  go_enter Try.func82, Try.ntmps82
  go_wp2_with fail
  refine (wide_calls 2 _ (by omega) (by omega)).mono ?_
  rintro e w' ⟨rfl, rfl⟩
  go_wp2_with fail
  refine wp_loop_rounds 9 ?_
  rw [rounds_succ]; go_wp2_with fail
  rw [rounds_succ]; go_wp2_with fail
  rw [rounds_succ]; go_wp2_with fail
  rw [rounds_succ]; go_wp2_with fail
  rw [rounds_succ]; go_wp2_with fail
  rw [rounds_succ]; go_wp2_with fail
  rw [rounds_succ]; go_wp2_with fail
  rw [rounds_succ]; go_wp2_with fail
  rw [rounds_succ]; go_wp2_with fail
  refine wp_loop_rounds 7 ?_
  rw [rounds_succ]; go_wp2_with fail
  rw [rounds_succ]; go_wp2_with fail
  rw [rounds_succ]; go_wp2_with fail
  rw [rounds_succ]; go_wp2_with fail
  rw [rounds_succ]; go_wp2_with fail
  rw [rounds_succ]; go_wp2_with fail
  rw [rounds_succ]; go_wp2_with fail
  go_region_law (refine step_copy_splice rfl (.tmp 52) (.tmp 55) 26 26 rfl 5 Try.underlying26 (by kernel_rfl) (some ⟨w.heap.size + 1, s.size, none⟩) (some ⟨w.heap.size, 6, none⟩) 2 2 2 2 (by simp [Act.eval, Act.put]) (by simp [Act.eval, Act.put]) (w.heap.size + 1) s.size (Lib.byteCells s.data.toList ++ List.replicate 2 (.int .u8 0)) 5 (two_row _ _ _ _) ([n / 256, n % 256].map (Value.int .u8)) (by simp) (fun _ => ⟨rfl, _, rfl, fun j v hj => all_cells _ _ _ _ _ _ _ (by rcases j with _ | _ | _ | _ | _ | _ | _ | _ | j <;> simp at hj ⊢ <;> exact hj)⟩) (by simp [Lib.byteCells]) (nums_one _) w.heap.size w (below_two _ _ _) (by omega) ?_; intro W2 hW2 hb2)
  have hcv := put_back W2 (w.heap.size + 1) s 2 [n / 256, n % 256] rfl hW2.out
  go_wp2
  exact bodyPost_ret (v := .tuple #[.string (s ++ strOfNums [n / 256, n % 256]), .int .i64 0]) (by simp [results, Try.results82, go_sem]) rfl ⟨rfl, hb2⟩
set_option maxHeartbeats 2000000 in
set_option maxRecDepth 100000 in
theorem put4_calls (s : ByteArray) (n : Int) (w : World) (hs : s.size ≤ 140737488351232) (h0 : 0 ≤ n) (h1 : n < 4294967296) :
    Calls Try.prog 82 #[.string s, .int .u64 n, .int .i64 4] w fun e w' => e = .returned (.tuple #[.string (s ++ strOfNums [n / 16777216, n / 65536 % 256, n / 256 % 256, n % 256]), .int .i64 0]) ∧ Below w.heap.size w w' := by
  have hmk := fun wx => run_make_row' (P := Try.prog) 26 5 (.int .u8 0) 1 Try.underlying26 (by kernel_rfl) rfl .i64 .i64 (s.size + 4) (by omega) (by omega) wx
  have hcp := fun cs => copy_made w s 4 cs 150
  have hle : (s.size : Int) ≤ (s.size : Int) + 4 := by omega
  have hwr : IntKind.i64.wrap 4 = 4 := by decide
  have ec : ((s.size + 4 : Nat) : Int) = (s.size : Int) + 4 := by omega
  rw [ec] at hmk
  clear ec
  go_enter Try.func82, Try.ntmps82
  go_wp2_with fail
  refine (wide_calls 4 _ (by omega) (by omega)).mono ?_
  rintro e w' ⟨rfl, rfl⟩
  go_wp2_with fail
  refine wp_loop_rounds 9 ?_
  rw [rounds_succ]; go_wp2_with fail
  rw [rounds_succ]; go_wp2_with fail
  rw [rounds_succ]; go_wp2_with fail
  rw [rounds_succ]; go_wp2_with fail
  rw [rounds_succ]; go_wp2_with fail
  rw [rounds_succ]; go_wp2_with fail
  rw [rounds_succ]; go_wp2_with fail
  rw [rounds_succ]; go_wp2_with fail
  rw [rounds_succ]; go_wp2_with fail
  refine wp_loop_rounds 5 ?_
  rw [rounds_succ]; go_wp2_with fail
  rw [rounds_succ]; go_wp2_with fail
  rw [rounds_succ]; go_wp2_with fail
  rw [rounds_succ]; go_wp2_with fail
  rw [rounds_succ]; go_wp2_with fail
  go_region_law (refine step_copy_splice rfl (.tmp 52) (.tmp 55) 26 26 rfl 5 Try.underlying26 (by kernel_rfl) (some ⟨w.heap.size + 1, s.size, none⟩) (some ⟨w.heap.size, 4, none⟩) 4 4 4 4 (by simp [Act.eval, Act.put]) (by simp [Act.eval, Act.put]) (w.heap.size + 1) s.size (Lib.byteCells s.data.toList ++ List.replicate 4 (.int .u8 0)) 5 (two_row _ _ _ _) ([n / 16777216, n / 65536 % 256, n / 256 % 256, n % 256].map (Value.int .u8)) (by simp) (fun _ => ⟨rfl, _, rfl, fun j v hj => all_cells _ _ _ _ _ _ _ (by rcases j with _ | _ | _ | _ | _ | _ | _ | _ | j <;> simp at hj ⊢ <;> exact hj)⟩) (by simp [Lib.byteCells]) (nums_one _) w.heap.size w (below_two _ _ _) (by omega) ?_; intro W2 hW2 hb2)
  have hcv := put_back W2 (w.heap.size + 1) s 4 [n / 16777216, n / 65536 % 256, n / 256 % 256, n % 256] rfl hW2.out
  go_wp2
  exact bodyPost_ret (v := .tuple #[.string (s ++ strOfNums [n / 16777216, n / 65536 % 256, n / 256 % 256, n % 256]), .int .i64 0]) (by simp [results, Try.results82, go_sem]) rfl ⟨rfl, hb2⟩
set_option maxHeartbeats 2000000 in
set_option maxRecDepth 100000 in
theorem put8_calls (s : ByteArray) (n : Int) (w : World) (hs : s.size ≤ 140737488351232) (h0 : 0 ≤ n) (h1 : n < 18446744073709551616) :
    Calls Try.prog 82 #[.string s, .int .u64 n, .int .i64 8] w fun e w' => e = .returned (.tuple #[.string (s ++ strOfNums [n / 72057594037927936, n / 281474976710656 % 256, n / 1099511627776 % 256, n / 4294967296 % 256, n / 16777216 % 256, n / 65536 % 256, n / 256 % 256, n % 256]), .int .i64 0]) ∧ Below w.heap.size w w' := by
  have hmk := fun wx => run_make_row' (P := Try.prog) 26 5 (.int .u8 0) 1 Try.underlying26 (by kernel_rfl) rfl .i64 .i64 (s.size + 8) (by omega) (by omega) wx
  have hcp := fun cs => copy_made w s 8 cs 150
  have hle : (s.size : Int) ≤ (s.size : Int) + 8 := by omega
  have hwr : IntKind.i64.wrap 0 = 0 := by decide
  have ec : ((s.size + 8 : Nat) : Int) = (s.size : Int) + 8 := by omega
  rw [ec] at hmk
  clear ec
  go_enter Try.func82, Try.ntmps82
  go_wp2_with fail
  refine (wide_calls 8 _ (by omega) (by omega)).mono ?_
  rintro e w' ⟨rfl, rfl⟩
  go_wp2_with fail
  refine wp_loop_rounds 9 ?_
  rw [rounds_succ]; go_wp2_with fail
  rw [rounds_succ]; go_wp2_with fail
  rw [rounds_succ]; go_wp2_with fail
  rw [rounds_succ]; go_wp2_with fail
  rw [rounds_succ]; go_wp2_with fail
  rw [rounds_succ]; go_wp2_with fail
  rw [rounds_succ]; go_wp2_with fail
  rw [rounds_succ]; go_wp2_with fail
  rw [rounds_succ]; go_wp2_with fail
  refine wp_loop_rounds 1 ?_
  rw [rounds_succ]; go_wp2_with fail
  go_region_law (refine step_copy_splice rfl (.tmp 52) (.tmp 55) 26 26 rfl 5 Try.underlying26 (by kernel_rfl) (some ⟨w.heap.size + 1, s.size, none⟩) (some ⟨w.heap.size, 0, none⟩) 8 8 8 8 (by simp [Act.eval, Act.put]) (by simp [Act.eval, Act.put]) (w.heap.size + 1) s.size (Lib.byteCells s.data.toList ++ List.replicate 8 (.int .u8 0)) 5 (two_row _ _ _ _) ([n / 72057594037927936, n / 281474976710656 % 256, n / 1099511627776 % 256, n / 4294967296 % 256, n / 16777216 % 256, n / 65536 % 256, n / 256 % 256, n % 256].map (Value.int .u8)) (by simp) (fun _ => ⟨rfl, _, rfl, fun j v hj => all_cells _ _ _ _ _ _ _ (by rcases j with _ | _ | _ | _ | _ | _ | _ | _ | j <;> simp at hj ⊢ <;> exact hj)⟩) (by simp [Lib.byteCells]) (nums_one _) w.heap.size w (below_two _ _ _) (by omega) ?_; intro W2 hW2 hb2)
  have hcv := put_back W2 (w.heap.size + 1) s 8 [n / 72057594037927936, n / 281474976710656 % 256, n / 1099511627776 % 256, n / 4294967296 % 256, n / 16777216 % 256, n / 65536 % 256, n / 256 % 256, n % 256] rfl hW2.out
  go_wp2
  exact bodyPost_ret (v := .tuple #[.string (s ++ strOfNums [n / 72057594037927936, n / 281474976710656 % 256, n / 1099511627776 % 256, n / 4294967296 % 256, n / 16777216 % 256, n / 65536 % 256, n / 256 % 256, n % 256]), .int .i64 0]) (by simp [results, Try.results82, go_sem]) rfl ⟨rfl, hb2⟩
end Go.Proofs.Ytcipdimnbleljaa
