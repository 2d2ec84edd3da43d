/-
  Layer 8, the document's: insert, Open.
  Layer 8, the document's: Told.
-/
import Derived.Test.YtdmnoogppmckaaaGreatWi
namespace Go.Proofs.YtdmnoogppmckaaaGreat
open Go.RowKit

/-- a number more, in its place -/
def insD (L : List Int) (n : Int) : List Int := L.takeWhile (fun x => decide (x < n)) ++ n :: L.dropWhile (fun x => decide (x < n))
theorem insD_len (L : List Int) (n : Int) : (insD L n).length = L.length + 1 := by
  have := congrArg List.length (List.takeWhile_append_dropWhile (p := fun x => decide (x < n)) (l := L))
  unfold insD
  rw [List.length_append] at this ⊢
  simp only [List.length_cons]
  omega
theorem insD_at : ∀ (L : List Int) (n : Int) (k : Nat), k ≤ L.length → (∀ x ∈ L.take k, x < n) → (∀ x, L[k]? = some x → ¬ x < n) → insD L n = L.take k ++ n :: L.drop k
  | [], n, k, hk, h1, h2 => by
    obtain rfl : k = 0 := by simpa using hk
    simp [insD]
  | y :: L, n, 0, hk, h1, h2 => by
    have := h2 y rfl
    simp [insD, this]
  | y :: L, n, k + 1, hk, h1, h2 => by
    have h0 := h1 y (by simp)
    have := insD_at L n k (by simpa using hk) (fun x hx => h1 x (by simp [hx])) (fun x hx => h2 x (by simpa using hx))
    unfold insD at this ⊢
    simp [h0, this]
section
variable {ρ : Operand → Value} {o : Oper} {w : World} {x y z : Operand} {p : Option Addr} {n c i j : Nat}
theorem run_sllI (ho : o.op = .slice 55 x (some y) none none) (hx : ρ x = .slice p n c) (hy : ρ y = .int .i64 i) (h1 : i ≤ n) :
    (execOp ρ o).run Tryz.prog w = .ok (.value (.slice (if c = i then p else p.map (·.add (i * 1))) (n - i) (c - i))) w := by
  have h := run_slice_l (P := Tryz.prog) w 55 p n c (by kernel_rfl) .i64 (i : Int) (by omega) (by omega)
  have hs : (sizeOf (Tryz.prog.elem 55)).run Tryz.prog w = .ok 1 w := by kernel_rfl
  rw [← run_sliceAt_slice (P := Tryz.prog) w 55 (.slice p n c) _ _ _ (by kernel_rfl), hs] at h
  simp only [Result.andThen_ok, Int.toNat_natCast, sliced] at h
  unfold execOp
  simp only [ho, hx, hy, Option.map_some, Option.map_none, Sem.run_bind, h, Sem.run_pure, Result.andThen_ok]
theorem run_sllI' {q : Option Addr} (hq : q = if c = i then p else p.map (·.add (i * 1))) (ho : o.op = .slice 55 x (some y) none none) (hx : ρ x = .slice p n c) (hy : ρ y = .int .i64 i) (h1 : i ≤ n) :
    (execOp ρ o).run Tryz.prog w = .ok (.value (.slice q (n - i) (c - i))) w := by
  subst hq
  exact run_sllI ho hx hy h1
end
theorem in_all (t : List Int) : ∀ z ∈ t.map inV, ∀ u ∈ z, u.oneCell' = true := by
  intro z hz
  obtain ⟨q, _, rfl⟩ := List.mem_map.1 hz
  exact in_one q
theorem in_at {w : World} {a : Addr} {L : List Int} {k : Nat} (h : Els w (some a) 1 (L.map inV)) (hk : k < L.length) : (loadVar 3 (a.add k)).run Tryz.prog w = .ok (.int .i64 L[k]) w := by
  have := h.cells a rfl k (inV L[k]) 0 (.int .i64 L[k]) (by rw [List.getElem?_map, List.getElem?_eq_getElem hk]; rfl) rfl
  rw [Nat.mul_one, Nat.add_zero] at this
  exact run_i64 this

set_option maxHeartbeats 4000000 in
set_option maxRecDepth 100000 in
theorem rinsert_calls (p : Option Addr) (c : Nat) (L : List Int) (n : Int) (w : World) (hE : Els w p 1 (L.map inV)) (hc : L.length ≤ c) (hl : L.length ≤ 1000) :
    Calls Tryz.prog 157 #[.slice p L.length c, .int .i64 n] w fun e w' => (∃ q d, e = .returned (.slice q (insD L n).length d) ∧ (insD L n).length ≤ d ∧ Els w' q 1 ((insD L n).map inV)) ∧ Below w.heap.size w w' := by
  have hb0 := Lib.hid (Below.refl w.heap.size w)
  have hX := Lib.hid (insD_at L n)
  have hXl := Lib.hid (insD_len L n)
  generalize insD L n = X at *
  replace hE := Lib.hid hE
  go_enter Tryz.func157, Tryz.ntmps157
  go_wp2_with fail
  go_loopw [5, 6] (fun v iv wr => ∃ k : Nat, k ≤ L.length ∧ iv = .int .i64 k ∧ (∀ x ∈ L.take k, x < n) ∧ wr.ownsRow w.heap.size 3 1 v k ((L.take k).map inV).flatten ∧ Below w.heap.size w wr) (fun _ iv _ => L.length - (intOf iv).toNat)
  case atStart => exact ⟨0, Nat.zero_le _, rfl, fun x h => by simp at h, World.ownsRow_nil _ _ _ _, hb0.out⟩
  case round =>
    obtain ⟨k, hk, rfl, hall, hown, hbr⟩ := hrel
    clear hb0
    replace hall := Lib.hid hall
    by_cases hgo : ∃ h : k < L.length, L[k] < n
    · obtain ⟨hlt, hgt⟩ := hgo
      have hltI : (k : Int) < (L.length : Int) := by omega
      have s1 : IntKind.i64.wrap ((k : Int) + 1) = (k : Int) + 1 := IntWalk.i64_in _ (by omega)
      obtain ⟨a, rfl⟩ := (hE.out.below hbr).some_of (k := k) (by simpa using hlt)
      have hla := in_at (hE.out.below hbr) hlt
      have hts : L.take (k + 1) = L.take k ++ [L[k]] := List.take_succ_eq_append_getElem hlt
      generalize L[k] = u at *
      replace hla := Lib.hid hla
      replace hts := Lib.hid hts
      have hownA := Lib.hid (own_mod hown ((Mod.refl (fun _ => False) _).alloc (.cells (inV u).toArray 3)) (fun _ _ h => h))
      have hbA := Lib.hid (hbr.alloc hbr.size (.cells (inV u).toArray 3))
      have hzA := Lib.hid hbA.out.size
      clear hown hbr
      go_wp2_with (first | (refine wpList_load_v rfl 3 _ rfl (a.add k) rfl _ hla.out ?_) | (refine wpList_bs1 rfl 55 1 0 _ rfl (.int .i64 u) rfl _ _ (rsl_in u _) ?_) |
        (refine wpList_appG in_el rfl _ _ rfl w.heap.size hzA.out _ _ _ rfl hownA.out (by omega) _ 1 1 (inV u) rfl rfl (by omega) (row_cells (Blk.new _ _ _)) (in_one _) ?_; intro v' w13 hown' hg'; have HO := Lib.hid hown'; have HB := Lib.hid (grown_low hbA.out (Nat.le_refl _) (Nat.le_refl _) hownA.out hg'); clear hown' hg' hownA hzA hbA))
      go_roundw
      case rel =>
        refine ⟨k + 1, by omega, by simp, fun x hx => ?_, ?_, HB.out⟩
        · rw [hts.out] at hx
          rcases List.mem_append.1 hx with h | h
          · exact hall.out x h
          · simp at h; omega
        · rw [hts.out, List.map_append, List.flatten_append]
          simpa using HO.out
      case measure => simp [intOf]; omega
    · have hXk := hX.out k hk hall.out (fun x hx => Int.not_lt.1 fun h => hgo (by obtain ⟨h1, h2⟩ := List.getElem?_eq_some_iff.1 hx; exact ⟨h1, by rw [h2]; exact h⟩))
      obtain ⟨q, m, d, rfl⟩ := own_isS hown
      obtain rfl : m = k := by
        have hEl := own_els (R := (L.take k).map inV) (inV_len _) (by rw [List.length_map, List.length_take, Nat.min_eq_left hk]; exact hown) (by rw [List.length_map, List.length_take]; omega)
        rw [List.length_map, List.length_take, Nat.min_eq_left hk] at hEl
        exact hEl.2.1
      obtain ⟨pS, hpS⟩ : ∃ q, q = if c = m then p else p.map (·.add (m * 1)) := ⟨_, rfl⟩
      replace hpS := Lib.hid hpS
      have hownA := Lib.hid (own_mod hown ((Mod.refl (fun _ => False) _).alloc (.cells (inV n).toArray 3)) (fun _ _ h => h))
      have hbA := Lib.hid (hbr.alloc hbr.size (.cells (inV n).toArray 3))
      have hzA := Lib.hid hbA.out.size
      replace hXk := Lib.hid hXk
      replace hX := hXl
      have hbW := Lib.hid hbr
      clear hown
      by_cases hlt : m < L.length
      · have hltI : (m : Int) < (L.length : Int) := by omega
        have hnu : ¬ L[m] < n := fun h => hgo ⟨hlt, h⟩
        obtain ⟨a, rfl⟩ := hE.out.some_of (k := m) (by simpa using hlt)
        have hla := in_at (hE.out.below hbr) hlt
        generalize L[m] = u at *
        replace hla := Lib.hid hla
        clear hgo hbr
        go_upto_region 6 with (refine wpList_load_v rfl 3 _ rfl (a.add m) rfl _ hla.out ?_)
        clear hla hnu hltI hlt
        generalize (some a) = p at *
        go_wp2_with (first | (refine wpList_v rfl (.slice pS (L.length - m) (c - m)) (run_sllI' hpS.out rfl rfl rfl hk) ?_) | (refine wpList_bs1 rfl 55 1 0 _ rfl (.int .i64 n) rfl _ _ (rsl_in n _) ?_) |
          (refine wpList_appG in_el rfl _ _ rfl w.heap.size hzA.out _ _ _ rfl hownA.out (by omega) _ 1 1 (inV n) rfl rfl (by omega) (row_cells (Blk.new _ _ _)) (in_one _) ?_; intro v' w13 hown' hg'; have HB := Lib.hid (grown_low hbA.out (Nat.le_refl _) (Nat.le_refl _) hownA.out hg'); have HZ := Lib.hid (Nat.le_trans hzA.out hg'.size);
            have HS : Hid (Els w13 pS 1 (((L.map inV).drop m).take (L.length - m))) := Lib.hid (by rw [hpS.out]; exact els_slice (hE.out.below HB.out) hk hc); have HO := Lib.hid hown'; clear hown' hg' hownA hzA hbA) |
          (refine wpList_appE in_el rfl _ _ rfl w.heap.size HZ.out _ _ _ rfl HO.out (by omega) pS (L.length - m) (c - m) _ rfl HS.out (by simp) (by omega) (fun z hz => in_all L z (List.mem_of_mem_drop (List.mem_of_mem_take hz))) ?_; intro v7 w7 hO7 hg7; have HB7 := Lib.hid (grown_low HB.out (Nat.le_refl _) (Nat.le_refl _) HO.out hg7); replace hO7 := Lib.hid hO7; clear hg7 HO HS HZ HB))
        obtain ⟨q7, m7, d7, rfl⟩ := own_isS hO7.out
        have hEl := own_els (R := X.map inV) (inV_len _) (by
          rw [List.length_map, hX.out, hXk.out]
          have := hO7.out
          rw [show m + 1 + (L.length - m) = L.length + 1 by omega, List.take_of_length_le (show ((L.map inV).drop m).length ≤ L.length - m by simp)] at this
          simpa [List.flatten_append, ← List.map_drop] using this) (by rw [List.length_map, hX.out]; omega)
        rw [List.length_map] at hEl
        obtain ⟨h1, rfl, h3, h4⟩ := hEl
        replace h1 := Lib.hid h1
        clear hO7 h4 hE
        go_ret
        exact ⟨⟨q7, d7, rfl, h3, h1.out⟩, HB7.out⟩
      · have hltI : ¬ (m : Int) < (L.length : Int) := by omega
        clear hgo hbr
        go_upto_region 6 with fail
        clear hltI hlt
        go_wp2_with (first | (refine wpList_v rfl (.slice pS (L.length - m) (c - m)) (run_sllI' hpS.out rfl rfl rfl hk) ?_) | (refine wpList_bs1 rfl 55 1 0 _ rfl (.int .i64 n) rfl _ _ (rsl_in n _) ?_) |
          (refine wpList_appG in_el rfl _ _ rfl w.heap.size hzA.out _ _ _ rfl hownA.out (by omega) _ 1 1 (inV n) rfl rfl (by omega) (row_cells (Blk.new _ _ _)) (in_one _) ?_; intro v' w13 hown' hg'; have HB := Lib.hid (grown_low hbA.out (Nat.le_refl _) (Nat.le_refl _) hownA.out hg'); have HZ := Lib.hid (Nat.le_trans hzA.out hg'.size);
            have HS : Hid (Els w13 pS 1 (((L.map inV).drop m).take (L.length - m))) := Lib.hid (by rw [hpS.out]; exact els_slice (hE.out.below HB.out) hk hc); have HO := Lib.hid hown'; clear hown' hg' hownA hzA hbA) |
          (refine wpList_appE in_el rfl _ _ rfl w.heap.size HZ.out _ _ _ rfl HO.out (by omega) pS (L.length - m) (c - m) _ rfl HS.out (by simp) (by omega) (fun z hz => in_all L z (List.mem_of_mem_drop (List.mem_of_mem_take hz))) ?_; intro v7 w7 hO7 hg7; have HB7 := Lib.hid (grown_low HB.out (Nat.le_refl _) (Nat.le_refl _) HO.out hg7); replace hO7 := Lib.hid hO7; clear hg7 HO HS HZ HB))
        obtain ⟨q7, m7, d7, rfl⟩ := own_isS hO7.out
        have hEl := own_els (R := X.map inV) (inV_len _) (by
          rw [List.length_map, hX.out, hXk.out]
          have := hO7.out
          rw [show m + 1 + (L.length - m) = L.length + 1 by omega, List.take_of_length_le (show ((L.map inV).drop m).length ≤ L.length - m by simp)] at this
          simpa [List.flatten_append, ← List.map_drop] using this) (by rw [List.length_map, hX.out]; omega)
        rw [List.length_map] at hEl
        obtain ⟨h1, rfl, h3, h4⟩ := hEl
        replace h1 := Lib.hid h1
        clear hO7 h4 hE
        go_ret
        exact ⟨⟨q7, d7, rfl, h3, h1.out⟩, HB7.out⟩
/-- what became of a request among so many stops: picked, dropped, and is this the first of its stops? -/
def opF (l : List (Int × Int)) (r : Int) (i : Nat) : Nat → Int × Int × Bool
  | 0 => (0, 0, true)
  | j + 1 =>
    let s := l.getD j (0, 0)
    let q := opF l r i j
    if s.1 ≠ r then q
    else (if s.2 = 0 then 1 else q.1, if s.2 = 1 then 1 else if s.2 = 0 then 0 else q.2.1, q.2.2 && decide (i ≤ j))
def opT (l : List (Int × Int)) (r : Int) (i k : Nat) : Bool := (opF l r i k).2.2 && ((opF l r i k).1 == 1 && (opF l r i k).2.1 == 0)
def opL (l : List (Int × Int)) (k : Nat) : Nat → List Int
  | 0 => []
  | i + 1 => if opT l (l.getD i (0, 0)).1 i k then insD (opL l k i) (l.getD i (0, 0)).1 else opL l k i
/-- what is open behind so many stops -/
def openD (l : List (Int × Int)) (k : Nat) : List Int := opL l k k
theorem els_nil (w : World) (n : Nat) : Els w none n [] := ⟨fun _ => rfl, fun _ h => (by cases h), by simp, fun _ h => (by cases h)⟩
theorem opL_len (l : List (Int × Int)) (k : Nat) : ∀ i, (opL l k i).length ≤ i
  | 0 => Nat.le_refl _
  | i + 1 => by
    have := opL_len l k i
    rw [opL]
    split
    · rw [insD_len]; omega
    · omega
theorem opF_01 (l : List (Int × Int)) (r : Int) (i : Nat) : ∀ j, ((opF l r i j).1 = 0 ∨ (opF l r i j).1 = 1) ∧ ((opF l r i j).2.1 = 0 ∨ (opF l r i j).2.1 = 1)
  | 0 => ⟨.inl rfl, .inl rfl⟩
  | j + 1 => by
    have := opF_01 l r i j
    simp only [opF]
    split
    · exact this
    · refine ⟨?_, ?_⟩
      · dsimp only; split
        · exact .inr rfl
        · exact this.1
      · dsimp only; split
        · exact .inr rfl
        · split
          · exact .inl rfl
          · exact this.2

set_option maxHeartbeats 4000000 in
set_option maxRecDepth 100000 in
theorem ropen_calls (p : Option Addr) (c : Nat) (l : List (Int × Int)) (k : Int) (K : Nat) (w : World) (hE : Els w p 2 (l.map stV)) (hl : l.length ≤ 1000)
    (hK : (K : Int) = if 0 < (if (l.length : Int) < k then (l.length : Int) else k) then (if (l.length : Int) < k then (l.length : Int) else k) else 0) :
    Calls Tryz.prog 156 #[.slice p l.length c, .int .i64 k] w fun e w' => (∃ q d, e = .returned (.slice q (openD l K).length d) ∧ (openD l K).length ≤ d ∧ Els w' q 1 ((openD l K).map inV)) ∧ Below w.heap.size w w' := by
  have hb0 := Lib.hid (Below.refl w.heap.size w)
  have hKl : K ≤ l.length := by split at hK <;> (try split at hK) <;> omega
  replace hE := Lib.hid hE
  go_enter Tryz.func156, Tryz.ntmps156
  go_upto_region 3 with fail
  rw [← hK]
  clear hK
  generalize (if (l.length : Int) < k then (l.length : Int) else k) = mn
  have hlen := Lib.hid (opL_len l K)
  go_wp2_with fail
  go_loopw [5, 6] (fun v iv wr => ∃ (i : Nat), i ≤ K ∧ iv = .int .i64 i ∧ (∃ q d, v = .slice q (opL l K i).length d ∧ (opL l K i).length ≤ d ∧ Els wr q 1 ((opL l K i).map inV)) ∧ Below w.heap.size w wr) (fun _ iv _ => K - (intOf iv).toNat)
  case atStart => exact ⟨0, Nat.zero_le _, rfl, ⟨none, 0, rfl, Nat.zero_le _, els_nil _ _⟩, hb0.out⟩
  case round =>
    obtain ⟨i, hi, rfl, ⟨q, d, rfl, hqd, hQ⟩, hbr⟩ := hrel
    clear hb0
    replace hQ := Lib.hid hQ
    replace hbr := Lib.hid hbr
    by_cases hlt : i < K
    · have hltI : (i : Int) < (K : Int) := by omega
      have s1 : IntKind.i64.wrap ((i : Int) + 1) = (i : Int) + 1 := IntWalk.i64_in _ (by omega)
      obtain ⟨a, rfl⟩ := hE.out.some_of (k := i) (by simp; omega)
      have hci : ∀ (j : Nat) (hj : j < l.length), (loadVar 3 (a.add (j * 2))).run Tryz.prog wr = .ok (.int .i64 (l.getD j (0, 0)).1) wr ∧ (loadVar 3 ((a.add (j * 2)).add 1)).run Tryz.prog wr = .ok (.int .i64 (l.getD j (0, 0)).2) wr := by
        intro j hj
        have e : l.getD j (0, 0) = l[j] := by rw [List.getD_eq_getElem?_getD, List.getElem?_eq_getElem hj]; rfl
        have h := (hE.out.below hbr.out).cells a rfl j (stV l[j])
        rw [e]
        refine ⟨run_i64 ?_, run_i64 ?_⟩
        · have := h 0 (.int .i64 l[j].1) (by rw [List.getElem?_map, List.getElem?_eq_getElem hj]; rfl) rfl
          rwa [Nat.add_zero] at this
        · have := h 1 (.int .i64 l[j].2) (by rw [List.getElem?_map, List.getElem?_eq_getElem hj]; rfl) rfl
          rwa [← addr_add_add] at this
      have hc0 := Lib.hid (hci i (by omega)).1
      replace hci := Lib.hid hci
      have hsu : Hid (opL l K (i + 1) = if opT l (l.getD i (0, 0)).1 i K then insD (opL l K i) (l.getD i (0, 0)).1 else opL l K i) := Lib.hid rfl
      generalize (l.getD i (0, 0)).1 = r at hc0 hsu
      have hleni := Lib.hid (hlen.out i)
      generalize opL l K i = Q at *
      go_upto_region 7 with (refine wpList_load_v rfl 3 _ rfl (a.add (i * 2)) rfl _ hc0.out ?_)
      clear hc0
      go_wp2_with fail
      obtain ⟨wo, hwo⟩ : ∃ wo : World, wo = wr := ⟨_, rfl⟩
      subst hwo
      go_loopw [8, 9, 10, 11] (fun s8 s9 s10 s11 wx => wx = wo ∧ ∃ j : Nat, j ≤ K ∧ s11 = .int .i64 j ∧ s8 = .int .i64 (opF l r i j).1 ∧ s9 = .int .i64 (opF l r i j).2.1 ∧ s10 = .bool (opF l r i j).2.2) (fun _ _ _ s11 _ => K - (intOf s11).toNat)
      case atStart => exact ⟨rfl, 0, Nat.zero_le _, rfl, rfl, rfl, rfl⟩
      case round =>
        obtain ⟨rfl, j, hj, rfl, rfl, rfl, rfl⟩ := hrel
        by_cases hltj : j < K
        · have hltJ : (j : Int) < (K : Int) := by omega
          have s2 : IntKind.i64.wrap ((j : Int) + 1) = (j : Int) + 1 := IntWalk.i64_in _ (by omega)
          have hj0 := Lib.hid (hci.out j (by omega)).1
          have hj1 := Lib.hid (hci.out j (by omega)).2
          have hst : opF l r i (j + 1) = if (l.getD j (0, 0)).1 ≠ r then opF l r i j else (if (l.getD j (0, 0)).2 = 0 then 1 else (opF l r i j).1, if (l.getD j (0, 0)).2 = 1 then 1 else if (l.getD j (0, 0)).2 = 0 then 0 else (opF l r i j).2.1, (opF l r i j).2.2 && decide (i ≤ j)) := rfl
          generalize hZ : opF l r i (j + 1) = Z at *
          replace hZ := Lib.hid hZ
          generalize opF l r i j = Y at *
          obtain ⟨f1, f2, f3⟩ := Y
          generalize l.getD j (0, 0) = s at *
          obtain ⟨x1, x2⟩ := s
          dsimp only at hst hj0 hj1
          replace hst := Lib.hid hst
          by_cases hx : x1 = r
          · have d1 : (x1 != r) = false := by simp [hx]
            replace hst : Hid (Z = (if x2 = 0 then 1 else f1, if x2 = 1 then 1 else if x2 = 0 then 0 else f2, f3 && decide (i ≤ j))) := Lib.hid (by rw [hst.out, if_neg (by simpa using hx)])
            clear hx
            have fin : ∀ (v1 v2 : Int) (v3 : Bool), Z = (v1, v2, v3) → (opF l r i (j + 1)).1 = v1 ∧ (opF l r i (j + 1)).2.1 = v2 ∧ (opF l r i (j + 1)).2.2 = v3 := by
              intro v1 v2 v3 h
              rw [hZ.out, h]
              exact ⟨rfl, rfl, rfl⟩
            replace fin := Lib.hid fin
            cases f3
            · by_cases h0 : x2 = 0
              · have hf := Lib.hid (fin.out 1 0 false (by rw [hst.out, h0]; rfl))
                have e0 : (x2 == 0) = true := by simp [h0]
                have e1 : (x2 == 1) = false := by simp [h0]
                clear h0 hst fin
                go_wp2_with (first | (refine wpList_load_v rfl 3 _ rfl (a.add (j * 2)) rfl _ hj0.out ?_) | (refine wpList_load_v rfl 3 _ rfl ((a.add (j * 2)).add 1) rfl _ hj1.out ?_))
                all_goals
                  go_roundw
                  case rel => exact ⟨trivial, j + 1, by omega, by simp, by rw [hf.out.1], by rw [hf.out.2.1], by rw [hf.out.2.2]⟩
                  case measure => simp [intOf]; omega
              · by_cases h1 : x2 = 1
                · have hf := Lib.hid (fin.out f1 1 false (by rw [hst.out, if_neg h0, if_pos h1]; rfl))
                  have e0 : (x2 == 0) = false := by simp [h0]
                  have e1 : (x2 == 1) = true := by simp [h1]
                  clear h0 h1 hst fin
                  go_wp2_with (first | (refine wpList_load_v rfl 3 _ rfl (a.add (j * 2)) rfl _ hj0.out ?_) | (refine wpList_load_v rfl 3 _ rfl ((a.add (j * 2)).add 1) rfl _ hj1.out ?_))
                  all_goals
                    go_roundw
                    case rel => exact ⟨trivial, j + 1, by omega, by simp, by rw [hf.out.1], by rw [hf.out.2.1], by rw [hf.out.2.2]⟩
                    case measure => simp [intOf]; omega
                · have hf := Lib.hid (fin.out f1 f2 false (by rw [hst.out, if_neg h0, if_neg h1, if_neg h0]; rfl))
                  have e0 : (x2 == 0) = false := by simp [h0]
                  have e1 : (x2 == 1) = false := by simp [h1]
                  clear h0 h1 hst fin
                  go_wp2_with (first | (refine wpList_load_v rfl 3 _ rfl (a.add (j * 2)) rfl _ hj0.out ?_) | (refine wpList_load_v rfl 3 _ rfl ((a.add (j * 2)).add 1) rfl _ hj1.out ?_))
                  all_goals
                    go_roundw
                    case rel => exact ⟨trivial, j + 1, by omega, by simp, by rw [hf.out.1], by rw [hf.out.2.1], by rw [hf.out.2.2]⟩
                    case measure => simp [intOf]; omega
            · have hDI : decide ((i : Int) ≤ (j : Int)) = decide (i ≤ j) := by
                by_cases h : i ≤ j
                · rw [decide_eq_true h, decide_eq_true (by omega)]
                · rw [decide_eq_false h, decide_eq_false (by omega)]
              by_cases h0 : x2 = 0
              · have hf := Lib.hid (fin.out 1 0 (decide (i ≤ j)) (by rw [hst.out, h0]; rfl))
                have e0 : (x2 == 0) = true := by simp [h0]
                have e1 : (x2 == 1) = false := by simp [h0]
                clear h0 hst fin
                go_wp2_with (first | (refine wpList_load_v rfl 3 _ rfl (a.add (j * 2)) rfl _ hj0.out ?_) | (refine wpList_load_v rfl 3 _ rfl ((a.add (j * 2)).add 1) rfl _ hj1.out ?_))
                all_goals
                  go_roundw
                  case rel => exact ⟨trivial, j + 1, by omega, by simp, by rw [hf.out.1], by rw [hf.out.2.1], by rw [hf.out.2.2]⟩
                  case measure => simp [intOf]; omega
              · by_cases h1 : x2 = 1
                · have hf := Lib.hid (fin.out f1 1 (decide (i ≤ j)) (by rw [hst.out, if_neg h0, if_pos h1]; rfl))
                  have e0 : (x2 == 0) = false := by simp [h0]
                  have e1 : (x2 == 1) = true := by simp [h1]
                  clear h0 h1 hst fin
                  go_wp2_with (first | (refine wpList_load_v rfl 3 _ rfl (a.add (j * 2)) rfl _ hj0.out ?_) | (refine wpList_load_v rfl 3 _ rfl ((a.add (j * 2)).add 1) rfl _ hj1.out ?_))
                  all_goals
                    go_roundw
                    case rel => exact ⟨trivial, j + 1, by omega, by simp, by rw [hf.out.1], by rw [hf.out.2.1], by rw [hf.out.2.2]⟩
                    case measure => simp [intOf]; omega
                · have hf := Lib.hid (fin.out f1 f2 (decide (i ≤ j)) (by rw [hst.out, if_neg h0, if_neg h1, if_neg h0]; rfl))
                  have e0 : (x2 == 0) = false := by simp [h0]
                  have e1 : (x2 == 1) = false := by simp [h1]
                  clear h0 h1 hst fin
                  go_wp2_with (first | (refine wpList_load_v rfl 3 _ rfl (a.add (j * 2)) rfl _ hj0.out ?_) | (refine wpList_load_v rfl 3 _ rfl ((a.add (j * 2)).add 1) rfl _ hj1.out ?_))
                  all_goals
                    go_roundw
                    case rel => exact ⟨trivial, j + 1, by omega, by simp, by rw [hf.out.1], by rw [hf.out.2.1], by rw [hf.out.2.2]⟩
                    case measure => simp [intOf]; omega
          · have d1 : (x1 != r) = true := by simp [hx]
            obtain rfl : Z = (f1, f2, f3) := by rw [hst.out, if_pos hx]
            clear hst hx
            go_wp2_with (first | (refine wpList_load_v rfl 3 _ rfl (a.add (j * 2)) rfl _ hj0.out ?_))
            go_roundw
            case rel => exact ⟨trivial, j + 1, by omega, by simp, by rw [hZ.out], by rw [hZ.out], by rw [hZ.out]⟩
            case measure => simp [intOf]; omega
        · obtain rfl : K = j := by omega
          have h01 := opF_01 l r i K
          unfold opT at hsu
          generalize opF l r i K = Y at *
          obtain ⟨f1, f2, f3⟩ := Y
          dsimp only at h01 hsu
          obtain ⟨h1, h2⟩ := h01
          cases f3
          · have hsn : Hid (opL l K (i + 1) = Q) := Lib.hid hsu.out
            clear hsu
            go_wp2_with fail
            go_roundw
            case rel => exact ⟨i + 1, by omega, by simp, ⟨q, d, by rw [hsn.out], by rw [hsn.out]; exact hqd, by rw [hsn.out]; exact hQ.out⟩, hbr.out⟩
            case measure => simp [intOf]; omega
          · rcases h1 with rfl | rfl
            · have hsn : Hid (opL l K (i + 1) = Q) := Lib.hid hsu.out
              clear hsu
              go_wp2_with fail
              go_roundw
              case rel => exact ⟨i + 1, by omega, by simp, ⟨q, d, by rw [hsn.out], by rw [hsn.out]; exact hqd, by rw [hsn.out]; exact hQ.out⟩, hbr.out⟩
              case measure => simp [intOf]; omega
            · rcases h2 with rfl | rfl
              · have hsn : Hid (opL l K (i + 1) = insD Q r) := Lib.hid hsu.out
                clear hsu
                go_wp2_with fail
                refine (rinsert_calls q d Q r _ hQ.out hqd (by have := hleni.out; omega)).mono ?_
                rintro e w2 ⟨⟨q2, d2, rfl, hq2, hE2⟩, hb2⟩
                replace hE2 := Lib.hid hE2
                replace hb2 := Lib.hid (hbr.out.trans (hb2.mono hbr.out.size))
                clear hbr hQ
                go_wp2_with fail
                go_roundw
                case rel => exact ⟨i + 1, by omega, by simp, ⟨q2, d2, by rw [hsn.out], by rw [hsn.out]; exact hq2, by rw [hsn.out]; exact hE2.out⟩, hb2.out⟩
                case measure => simp [intOf]; omega
              · have hsn : Hid (opL l K (i + 1) = Q) := Lib.hid hsu.out
                clear hsu
                go_wp2_with fail
                go_roundw
                case rel => exact ⟨i + 1, by omega, by simp, ⟨q, d, by rw [hsn.out], by rw [hsn.out]; exact hqd, by rw [hsn.out]; exact hQ.out⟩, hbr.out⟩
                case measure => simp [intOf]; omega
    · obtain rfl : i = K := by omega
      clear hE
      go_wp2_with fail
      go_ret
      exact ⟨⟨q, d, rfl, hqd, hQ.out⟩, hbr.out⟩
end Go.Proofs.YtdmnoogppmckaaaGreat
namespace Go.Proofs.YtdmnoogppmckaaaGreat
open Go.RowKit

set_option maxHeartbeats 4000000 in
set_option maxRecDepth 100000 in
theorem rtold_calls (p p' : Option Addr) (c c' : Nat) (l : List (Int × Int)) (t : List Rq) (w : World) (hL : Els w p 2 (l.map stV)) (hc : l.length ≤ c ∧ c ≤ 9223372036854775807) (hT : Els w p' 10 (t.map rqV)) :
    Calls Tryz.prog 155 #[.slice p l.length c, .slice p' t.length c'] w fun e w' => e = .returned (.int .i64 (toldP l t)) ∧ Below w.heap.size w w' := by
  have hbl : l.length ≤ 140737488351232 := by simpa using hL.big
  have hbt : t.length ≤ 140737488351232 := by simpa using hT.big
  have hX : toldP l t = if chkP l ≠ 0 then chkP l else if l.any (fun s => decide ((t.length : Int) ≤ s.1)) then 8 else if l.any (fun s => rqE (t.getD s.1.toNat rqZ0) != 0) then 2 else 0 := rfl
  have hk := Lib.hid (by
    have := rcheck_ref p c l w hL hc
    rwa [chk_one] at this : Calls Tryz.prog 122 #[.slice p l.length c] w fun e w' => e = .returned (.int .i64 (chkP l)) ∧ Below w.heap.size w w')
  have hq := Lib.hid (fun w (q : Rq) => chk_ref (q 0) (q 1) (q 2) (q 3) (q 4) (q 5) (q 6) (q 7) (q 8) (q 9) w)
  have hpos : chkP l = 0 → ∀ s ∈ l, 0 ≤ s.1 := fun h s hs => (ok_mem h hs).1
  generalize toldP l t = X at hX ⊢
  generalize chkP l = ck at hX hk hpos
  replace hX := Lib.hid hX
  replace hL := Lib.hid hL
  replace hT := Lib.hid hT
  replace hpos := Lib.hid hpos
  go_enter Tryz.func155, Tryz.ntmps155
  go_wp2_with fail
  refine hk.out.mono ?_
  rintro e w1 ⟨rfl, hb⟩
  clear hk
  by_cases c0 : ck = 0
  · have hpos' := Lib.hid (hpos.out c0)
    have hX2 : Hid (X = if l.any (fun s => decide ((t.length : Int) ≤ s.1)) then 8 else if l.any (fun s => rqE (t.getD s.1.toNat rqZ0) != 0) then 2 else 0) := Lib.hid (by rw [hX.out, if_neg (by simpa using c0)])
    clear hpos hX
    subst c0
    go_wp2_with fail
    go_loopw [6] (fun i wr => ∃ k : Nat, k ≤ l.length ∧ i = .int .i64 k ∧ Hid (∀ j s, j < k → l[j]? = some s → s.1 < (t.length : Int)) ∧ Below w.heap.size w wr) (fun i _ => l.length - (intOf i).toNat)
    case atStart => exact ⟨0, Nat.zero_le _, rfl, Lib.hid (fun j q h => by omega), hb⟩
    case round =>
      obtain ⟨k, hkl, rfl, hR, hbr⟩ := hrel
      clear hb
      by_cases hlt : k < l.length
      · have hltI : (k : Int) < (l.length : Int) := by omega
        have s1 : IntKind.i64.wrap ((k : Int) + 1) = (k : Int) + 1 := IntWalk.i64_in _ (by omega)
        obtain ⟨a, rfl⟩ := (hL.out.below hbr).some_of (k := k) (by simpa using hlt)
        have hla := (hL.out.below hbr).cells a rfl k (stV l[k]) 0 (.int .i64 l[k].1) (by rw [List.getElem?_map, List.getElem?_eq_getElem hlt]; rfl) rfl
        rw [Nat.add_zero] at hla
        have htk : l[k]? = some l[k] := List.getElem?_eq_getElem hlt
        obtain ⟨r, q, hs⟩ : ∃ r q, l[k] = (r, q) := ⟨_, _, rfl⟩
        rw [hs] at hla htk
        have hla' := Lib.hid (run_i64 hla)
        by_cases hr : r < (t.length : Int)
        · have hok : Hid (∀ j s, j < k + 1 → l[j]? = some s → s.1 < (t.length : Int)) := Lib.hid (fun j u hj hju => by
            by_cases e : j = k
            · subst e; rw [htk] at hju; cases hju; exact hr
            · exact hR.out j u (by omega) hju)
          clear hR htk hs hla
          go_wp2_with (refine wpList_load_v rfl 3 _ rfl (a.add (k * 2)) rfl _ hla'.out ?_)
          go_roundw
          case rel => exact ⟨k + 1, by omega, by simp, hok, hbr⟩
          case measure => simp [intOf]; omega
        · obtain rfl : X = 8 := by
            rw [hX2.out, if_pos]
            exact List.any_eq_true.2 ⟨(r, q), List.mem_of_getElem? htk, by simp; omega⟩
          clear hR htk hs hla hX2
          go_wp2_with (refine wpList_load_v rfl 3 _ rfl (a.add (k * 2)) rfl _ hla'.out ?_)
          go_ret
          exact ⟨rfl, hbr⟩
      · obtain rfl : k = l.length := by omega
        have hin : Hid (∀ s ∈ l, 0 ≤ s.1 ∧ s.1 < (t.length : Int)) := Lib.hid (fun s hs => by
          obtain ⟨j, hj, rfl⟩ := List.getElem_of_mem hs
          exact ⟨hpos'.out _ hs, hR.out j _ hj (List.getElem?_eq_getElem hj)⟩)
        have hX3 : Hid (X = if l.any (fun s => rqE (t.getD s.1.toNat rqZ0) != 0) then 2 else 0) := Lib.hid (by
          rw [hX2.out, if_neg]
          rw [List.any_eq_true]
          rintro ⟨s, hs, hne⟩
          have := (hin.out s hs).2
          simp at hne
          omega)
        clear hX2 hR hpos' hlt
        go_wp2_with fail
        go_loopw [7] (fun i wr => ∃ k : Nat, k ≤ l.length ∧ i = .int .i64 k ∧ Hid (∀ j s, j < k → l[j]? = some s → rqE (t.getD s.1.toNat rqZ0) = 0) ∧ Below w.heap.size w wr) (fun i _ => l.length - (intOf i).toNat)
        case atStart => exact ⟨0, Nat.zero_le _, rfl, Lib.hid (fun j q h => by omega), hbr⟩
        case round =>
          clear hbr
          obtain ⟨k, hkl, rfl, hR, hbr⟩ := hrel
          by_cases hlt : k < l.length
          · have hltI : (k : Int) < (l.length : Int) := by omega
            have s1 : IntKind.i64.wrap ((k : Int) + 1) = (k : Int) + 1 := IntWalk.i64_in _ (by omega)
            obtain ⟨a, rfl⟩ := (hL.out.below hbr).some_of (k := k) (by simpa using hlt)
            have hla := (hL.out.below hbr).cells a rfl k (stV l[k]) 0 (.int .i64 l[k].1) (by rw [List.getElem?_map, List.getElem?_eq_getElem hlt]; rfl) rfl
            rw [Nat.add_zero] at hla
            have htk : l[k]? = some l[k] := List.getElem?_eq_getElem hlt
            obtain ⟨r, q, hs⟩ : ∃ r q, l[k] = (r, q) := ⟨_, _, rfl⟩
            rw [hs] at hla htk
            have hr := hin.out _ (List.mem_of_getElem? htk)
            dsimp only at hr
            obtain ⟨n, rfl⟩ := Int.eq_ofNat_of_zero_le hr.1
            have hn : n < t.length := by omega
            have hla' := Lib.hid (run_i64 hla)
            obtain ⟨b, rfl⟩ := (hT.out.below hbr).some_of (k := n) (by simpa using hn)
            have hlb := Lib.hid ((hT.out.below hbr).load (P := Tryz.prog) (a := b) rfl (k := n) (by simpa using hn) (ty := 72) Tryz.underlying72 rfl (by kernel_rfl))
            rw [List.getElem_map] at hlb
            have hgd : t.getD ((n : Int)).toNat rqZ0 = t[n] := by rw [Int.toNat_natCast, getD_at t hn]
            generalize t[n] = u at hlb hgd
            have hqq : Hid (rqCode (u 0) (u 1) (u 2) (u 3) (u 4) (u 5) (u 6) (u 7) (u 8) (u 9) = rqE u) := Lib.hid rfl
            have hcq := Lib.hid (hq.out wr u)
            rw [hqq.out] at hcq
            have hbad : Hid (rqE u ≠ 0 → X = 2) := Lib.hid (fun h => by
              rw [hX3.out, if_pos]
              rw [List.any_eq_true]
              exact ⟨_, List.mem_of_getElem? htk, by rw [hgd]; simpa using h⟩)
            have hok : Hid (rqE u = 0 → ∀ j s, j < k + 1 → l[j]? = some s → rqE (t.getD s.1.toNat rqZ0) = 0) := Lib.hid (fun h j v hj hjv => by
              by_cases e : j = k
              · subst e; rw [htk] at hjv; cases hjv; rw [hgd]; exact h
              · exact hR.out j v (by omega) hjv)
            clear hR htk hqq hs hla hgd hr
            generalize rqE u = rc at hcq hbad hok
            go_wp2_with (first | (refine wpList_load_v rfl 3 _ rfl (a.add (k * 2)) rfl _ hla'.out ?_) | (refine wpList_load_v rfl 72 _ rfl (b.add (n * 10)) rfl _ hlb.out ?_))
            refine hcq.out.mono ?_
            rintro e w3 ⟨rfl, hb3⟩
            replace hb3 := hbr.trans (hb3.mono hbr.size)
            clear hla' hlb hcq hbr
            by_cases r0 : rc = 0
            · have hok' := Lib.hid (hok.out r0)
              subst r0
              clear hbad hok
              go_wp2_with fail
              go_roundw
              case rel => exact ⟨k + 1, by omega, by simp, hok', hb3⟩
              case measure => simp [intOf]; omega
            · obtain rfl : X = 2 := hbad.out r0
              have d1 : (rc == 0) = false := beq_eq_false_iff_ne.2 r0
              have d2 : (rc != 0) = true := by rw [bne, d1]; rfl
              clear hbad hok hX3
              go_wp2_with fail
              go_ret
              exact ⟨rfl, hb3⟩
          · obtain rfl : k = l.length := by omega
            obtain rfl : X = 0 := by
              rw [hX3.out, if_neg]
              rw [List.any_eq_true]
              rintro ⟨s, hs, hne⟩
              obtain ⟨j, hj, rfl⟩ := List.getElem_of_mem hs
              have h0 := hR.out j _ hj (List.getElem?_eq_getElem hj)
              rw [h0] at hne
              simp at hne
            clear hX3 hR hin hq hT hL
            go_wp2_with fail
            go_ret
            exact ⟨rfl, hbr⟩
  · obtain rfl : X = ck := by rw [hX.out, if_pos c0]
    have d1 : (X == 0) = false := beq_eq_false_iff_ne.2 c0
    have d2 : (X != 0) = true := by rw [bne, d1]; rfl
    clear hX hpos
    go_wp2_with fail
    go_ret
    exact ⟨rfl, hb⟩
end Go.Proofs.YtdmnoogppmckaaaGreat
