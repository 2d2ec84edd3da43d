/-
  Layer 6, the program's: With.
  Layer 6, the document's: With.
-/
import Derived.Test.YtpbmeeogledmdaeEls
import Derived.Test.YtpbmeeogledmdaeLd
namespace Go.Proofs.Ytpbmeeogledmdae
open Go.RowKit

section
variable {P : Program} {T E : TypeId} {n b : Nat}
/-- append(l[:i:i], one), l a row that lies there: its run -/
theorem run_appF (hT : ElT P T E n b) {ρ : Operand → Value} {o : Oper} {w : World} {x y : Operand} (ho : o.op = .call { callee := .builtin .append, args := #[x, y], argTypes := #[T, T] })
    (p : Option Addr) (m : Nat) (R : List (List Value)) (hx : ρ x = .slice p m m) (hE : Els w p n R) (hmR : m = R.length) (hm : m ≤ 100000) (q : Addr) (c : Nat) (news : List Value) (hy : ρ y = .slice (some q) 1 c) (hl : news.length = n)
    (hc : ∀ j u, news[j]? = some u → w.cell? (q.add j) = some u) (h1 : ∀ u ∈ news, u.oneCell' = true) :
    ∃ v' w', (execOp ρ o).run P w = .ok (.value v') w' ∧ w'.ownsRow w.heap.size E n v' (m + 1) (R.flatten ++ news) ∧ w.grownBy w' none := by
  cases p with
  | none =>
    obtain rfl := hE.nil rfl
    obtain rfl : m = 0 := hmR
    obtain ⟨v', w', h2, h3, h4⟩ := run_appG hT w.heap.size (Nat.le_refl _) (.slice none 0 0) 0 [] ho hx (World.ownsRow_nil _ _ _ _) (by omega) q 1 c news hy (by omega) (by omega) hc h1
    exact ⟨v', w', h2, h3, h4⟩
  | some a =>
    obtain ⟨ht, e1, e2, e3, hp, hb⟩ := hT
    obtain ⟨i, hi⟩ : ∃ i, P.info? E = some i := by
      cases h : P.info? E with
      | none => rw [h] at e1; cases e1
      | some i => exact ⟨i, rfl⟩
    rw [hi] at e1 e2 e3
    simp only [Option.map_some, Option.some.injEq, Option.bind_some] at e1 e2 e3
    obtain ⟨z, hzz⟩ : ∃ z, i.zero = some z := by
      cases hz : i.zero with
      | none => rw [hz] at e3; cases e3
      | some z => exact ⟨z, rfl⟩
    rw [hzz] at e3
    simp only [Option.map_some, Option.some.injEq] at e3
    have hbb : (m + 1) * b ≤ 100001 * 1000 := Nat.mul_le_mul (by omega) hb
    obtain ⟨v', w', hrun, r1, r2⟩ := run_append_arg_grows (P := P) w T o.type E i z n b ht hi hzz e1 e2 e3 hp a m m R.flatten (by rw [flat_len R hE.len, hmR]) (hE.flat rfl) q 1 c news (by omega) hc (by omega) (by unfold maxLen; omega) (by omega)
    refine ⟨v', w', ?_, r1, r2⟩
    unfold execOp
    simp only [ho, resolve, invoke, builtin, Sem.run_bind, Sem.run_pure, Result.andThen_ok, List.map_toArray, List.map_cons, List.map_nil, hx, hy, hrun]
/-- in a region that draws: the one operation that is left to come, its run known -/
theorem wpAny_vw {md : Region.Mode} {ops : Array Oper} {Q : Exit → Act → World → Prop} {fuel : Nat} {listed : Array Bool} {a : Act} {w w' : World} {i : Nat} {o : Oper} (hr : Region.ready md ops listed = [i]) (ho : ops[i]? = some o)
    (hw : Region.wanted o (yielded ops a.tmps) = true) (v : Value) (hrun : (execOp a.eval o).run P w = .ok (.value v) w') (h : wpAny P md ops Q fuel (listed.setIfInBounds i true) (a.put o.dst v) w') : wpAny P md ops Q (fuel + 1) listed a w :=
  wpAny_ready hr (by simp) (AllReady.cons ho (fun K hK => by rw [if_pos hw]; unfold Oper.wp; rw [hrun]; exact hK _ _ h) AllReady.nil)
theorem upon_appF (hT : ElT P T E n b) {ρ : Operand → Value} {o : Oper} {w : World} {x y : Operand} {K : Value → World → Prop} (ho : o.op = .call { callee := .builtin .append, args := #[x, y], argTypes := #[T, T] })
    (p : Option Addr) (m : Nat) (R : List (List Value)) (hx : ρ x = .slice p m m) (hE : Els w p n R) (hmR : m = R.length) (hm : m ≤ 100000) (q : Addr) (c : Nat) (news : List Value) (hy : ρ y = .slice (some q) 1 c) (hl : news.length = n)
    (hc : ∀ j u, news[j]? = some u → w.cell? (q.add j) = some u) (h1 : ∀ u ∈ news, u.oneCell' = true)
    (h : ∀ v' w', w'.ownsRow w.heap.size E n v' (m + 1) (R.flatten ++ news) → w.grownBy w' none → K v' w') : upon2 P K ((execOp ρ o).run P w) := by
  obtain ⟨v', w', hrun, r1, r2⟩ := run_appF hT ho p m R hx hE hmR hm q c news hy hl hc h1
  rw [hrun]
  exact h v' w' r1 r2
theorem wpAny_appF (hT : ElT P T E n b) {md : Region.Mode} {ops : Array Oper} {Q : Exit → Act → World → Prop} {fuel : Nat} {listed : Array Bool} {a : Act} {w : World} {i : Nat} {o : Oper} (hr : Region.ready md ops listed = [i]) (ho : ops[i]? = some o)
    (hw : Region.wanted o (yielded ops a.tmps) = true) (x y : Operand) (hop : o.op = .call { callee := .builtin .append, args := #[x, y], argTypes := #[T, T] })
    (p : Option Addr) (m : Nat) (R : List (List Value)) (hx : a.eval x = .slice p m m) (hE : Els w p n R) (hmR : m = R.length) (hm : m ≤ 100000) (q : Addr) (c : Nat) (news : List Value) (hy : a.eval y = .slice (some q) 1 c) (hl : news.length = n)
    (hc : ∀ j u, news[j]? = some u → w.cell? (q.add j) = some u) (h1 : ∀ u ∈ news, u.oneCell' = true)
    (h : ∀ v' w', w'.ownsRow w.heap.size E n v' (m + 1) (R.flatten ++ news) → w.grownBy w' none → wpAny P md ops Q fuel (listed.setIfInBounds i true) (a.put o.dst v') w') : wpAny P md ops Q (fuel + 1) listed a w := by
  obtain ⟨v', w', hrun, r1, r2⟩ := run_appF hT hop p m R hx hE hmR hm q c news hy hl hc h1
  exact wpAny_vw hr ho hw v' hrun (h v' w' r1 r2)
end
theorem st_el : ElT Try.prog 48 81 2 16 := ⟨Try.underlying48, by kernel_rfl, by kernel_rfl, by kernel_rfl, by omega, by omega⟩
theorem rsl_st (r k : Int) (w : World) : (Instr.buildSlice 48 1 #[(0, .agg #[.int .i64 r, .int .i64 k])]).run Try.prog w = .ok (.slice (some ⟨w.heap.size, 0, none⟩) 1 1) (w.alloc (.cells (stV (r, k)).toArray 81)) := by kernel_rfl
theorem st_one (s : Int × Int) : ∀ v ∈ stV s, v.oneCell' = true := by simp [stV, Value.oneCell']
theorem run_bst {ρ : Operand → Value} {o : Oper} {w : World} {x : Operand} {r k : Int} (ho : o.op = .buildSlice 48 1 #[(0, x)]) (hx : ρ x = .agg #[.int .i64 r, .int .i64 k]) :
    (execOp ρ o).run Try.prog w = .ok (.value (.slice (some ⟨w.heap.size, 0, none⟩) 1 1)) (w.alloc (.cells (stV (r, k)).toArray 81)) := by
  unfold execOp
  simp only [ho, hx, List.map_toArray, List.map_cons, List.map_nil, Sem.run_bind, rsl_st, Sem.run_pure, Result.andThen_ok]
theorem run_bld2 {ρ : Operand → Value} {o : Oper} {w : World} {x y : Operand} {r k : Int} (ho : o.op = .build 81 #[(0, x), (1, y)]) (hx : ρ x = .int .i64 r) (hy : ρ y = .int .i64 k) :
    (execOp ρ o).run Try.prog w = .ok (.value (.agg #[.int .i64 r, .int .i64 k])) w := by
  have h : (Instr.build 81 #[(0, .int .i64 r), (1, .int .i64 k)]).run Try.prog w = .ok (.agg #[.int .i64 r, .int .i64 k]) w := by kernel_rfl
  unfold execOp
  simp only [ho, hx, hy, List.map_toArray, List.map_cons, List.map_nil, Sem.run_bind, h, Sem.run_pure, Result.andThen_ok]
/-- the base of a part of a row -/
def slB (p : Option Addr) (i m : Nat) : Option Addr := if m = i then p else p.map (·.add (i * 2))
section
variable {ρ : Operand → Value} {o : Oper} {w : World} {x y z : Operand} {p : Option Addr} {n c i j : Nat}
theorem run_slhm (ho : o.op = .slice 48 x none (some y) (some z)) (hx : ρ x = .slice p n c) (hy : ρ y = .int .i64 i) (hz : ρ z = .int .i64 j) (h1 : i ≤ j) (h2 : j ≤ c) :
    (execOp ρ o).run Try.prog w = .ok (.value (.slice p i j)) w := by
  have h := run_slice_hm (P := Try.prog) w 48 p n c (by kernel_rfl) .i64 .i64 (i : Int) (j : Int) (by omega) (by omega) (by omega)
  have hs : (sizeOf (Try.prog.elem 48)).run Try.prog w = .ok 2 w := by kernel_rfl
  rw [← run_sliceAt_slice (P := Try.prog) w 48 (.slice p n c) _ _ _ (by kernel_rfl), hs] at h
  simp only [Result.andThen_ok, Int.toNat_natCast, sliced, Nat.sub_zero, Nat.zero_mul] at h
  unfold execOp
  have e : (if j = 0 then p else p.map fun a => a.add 0) = p := by
    split
    · rfl
    · cases p <;> simp [Addr.add]
  rw [e] at h
  simp only [ho, hx, hy, hz, Option.map_some, Option.map_none, Sem.run_bind, h, Sem.run_pure, Result.andThen_ok]
theorem run_sllh (ho : o.op = .slice 48 x (some y) (some z) none) (hx : ρ x = .slice p n c) (hy : ρ y = .int .i64 i) (hz : ρ z = .int .i64 j) (h1 : i ≤ j) (h2 : j ≤ c) :
    (execOp ρ o).run Try.prog w = .ok (.value (.slice (slB p i c) (j - i) (c - i))) w := by
  have h := run_slice_lh (P := Try.prog) w 48 p n c (by kernel_rfl) .i64 .i64 (i : Int) (j : Int) (by omega) (by omega) (by omega)
  have hs : (sizeOf (Try.prog.elem 48)).run Try.prog w = .ok 2 w := by kernel_rfl
  rw [← run_sliceAt_slice (P := Try.prog) w 48 (.slice p n c) _ _ _ (by kernel_rfl), hs] at h
  simp only [Result.andThen_ok, Int.toNat_natCast, sliced] at h
  unfold execOp slB
  simp only [ho, hx, hy, hz, Option.map_some, Option.map_none, Sem.run_bind, h, Sem.run_pure, Result.andThen_ok]
theorem run_sll (ho : o.op = .slice 48 x (some y) none none) (hx : ρ x = .slice p n c) (hy : ρ y = .int .i64 i) (h1 : i ≤ n) :
    (execOp ρ o).run Try.prog w = .ok (.value (.slice (slB p i c) (n - i) (c - i))) w := by
  have h := run_slice_l (P := Try.prog) w 48 p n c (by kernel_rfl) .i64 (i : Int) (by omega) (by omega)
  have hs : (sizeOf (Try.prog.elem 48)).run Try.prog w = .ok 2 w := by kernel_rfl
  rw [← run_sliceAt_slice (P := Try.prog) w 48 (.slice p n c) _ _ _ (by kernel_rfl), hs] at h
  simp only [Result.andThen_ok, Int.toNat_natCast, sliced] at h
  unfold execOp slB
  simp only [ho, hx, hy, Option.map_some, Option.map_none, Sem.run_bind, h, Sem.run_pure, Result.andThen_ok]
end
/-- a row with a request more, at two places -/
def withL (l : List (Int × Int)) (req : Int) (i j : Nat) : List (Int × Int) := l.take i ++ (req, 0) :: ((l.drop i).take (j - i) ++ (req, 1) :: l.drop j)
def withP (l : List (Int × Int)) (req i j : Int) : Option (List (Int × Int)) :=
  if i < 0 ∨ j < i ∨ (l.length : Int) < j ∨ req < 0 ∨ l.any (fun s => s.1 == req) = true ∨ 16 < l.length + 2 then none else some (withL l req i.toNat j.toNat)
theorem withL_len (l : List (Int × Int)) (req : Int) {i j : Nat} (h : i ≤ j) (hj : j ≤ l.length) : (withL l req i j).length = l.length + 2 := by
  unfold withL
  simp
  omega
theorem withL_flat (l : List (Int × Int)) (req : Int) (i j : Nat) : ((l.take i).map stV).flatten ++ stV (req, 0) ++ (((l.drop i).take (j - i)).map stV).flatten ++ stV (req, 1) ++ (((l.drop j).take (l.length - j)).map stV).flatten = ((withL l req i j).map stV).flatten := by
  unfold withL
  rw [List.take_of_length_le (l := l.drop j) (by simp)]
  simp
theorem stV_all (l : List (Int × Int)) : ∀ z ∈ l.map stV, ∀ u ∈ z, u.oneCell' = true := by
  intro z hz
  obtain ⟨s, _, rfl⟩ := List.mem_map.1 hz
  exact st_one s
theorem slB_els {w : World} {p : Option Addr} {l : List (Int × Int)} {i j c : Nat} (h : Els w p 2 (l.map stV)) (hij : i ≤ j) (hj : j ≤ c) : Els w (slB p i c) 2 (((l.drop i).take (j - i)).map stV) := by
  have := els_slice h (i := i) (j := j) (m := c) hij hj
  rw [← List.map_drop, ← List.map_take] at this
  exact this
def WiPost (w : World) (R : Option (List (Int × Int))) (e : Ending) (w' : World) : Prop :=
  (∃ q d, e = .returned (.tuple #[.slice q (R.getD []).length d, .bool R.isSome]) ∧ ((R.getD []).length ≤ d ∧ d ≤ 9223372036854775807) ∧ Els w' q 2 ((R.getD []).map stV)) ∧ Below w.heap.size w w'
theorem wi_none {w w' : World} (hb : Below w.heap.size w w') : WiPost w none (.returned (.tuple #[.slice none 0 0, .bool false])) w' :=
  ⟨⟨none, 0, rfl, ⟨Nat.le_refl _, by decide⟩, ⟨fun _ => rfl, fun x hx => (by cases hx), by simp, fun a ha => by cases ha⟩⟩, hb⟩
theorem with1_calls (b : Nat) (r k req : Int) (w : World) (h : w.cell? ⟨b, 0, none⟩ = some (.int .i64 req)) :
    Calls Try.prog 29 #[.agg #[.int .i64 r, .int .i64 k], .pointer (some ⟨b, 0, none⟩)] w fun e w' => e = .returned (.bool (r == req)) ∧ Below w.heap.size w w' := by
  have hb := new_below w (.cells #[.int .i64 r, .int .i64 k] 81)
  have hB := Blk.new w #[.int .i64 r, .int .i64 k] 81
  have h1 := hB.cell (i := 0) rfl
  have h2 := cellA (.cells #[.int .i64 r, .int .i64 k] 81) h
  clear hB
  go_enter Try.func29, Try.ntmps29
  go_wp2
  go_ret
  exact ⟨rfl, hb⟩

/-- what With hands back, and that it is new -/
def WiPostN (w : World) (R : Option (List (Int × Int))) (e : Ending) (w' : World) : Prop :=
  (∃ q d, e = .returned (.tuple #[.slice q (R.getD []).length d, .bool R.isSome]) ∧ ((R.getD []).length ≤ d ∧ d ≤ 9223372036854775807) ∧ Els w' q 2 ((R.getD []).map stV) ∧ (∀ a, q = some a → w.heap.size ≤ a.block)) ∧ Below w.heap.size w w'
theorem wi_noneN {w w' : World} (hb : Below w.heap.size w w') : WiPostN w none (.returned (.tuple #[.slice none 0 0, .bool false])) w' :=
  ⟨⟨none, 0, rfl, ⟨Nat.le_refl _, by decide⟩, ⟨fun _ => rfl, fun x hx => (by cases hx), by simp, fun a ha => by cases ha⟩, fun a ha => by cases ha⟩, hb⟩
set_option maxHeartbeats 2000000 in
set_option maxRecDepth 100000 in
theorem withN_calls (p : Option Addr) (c : Nat) (l : List (Int × Int)) (req i j : Int) (w : World) (hE : Els w p 2 (l.map stV)) (hc : l.length ≤ c) :
    Calls Try.prog 11 #[.slice p l.length c, .int .i64 req, .int .i64 i, .int .i64 j] w (WiPostN w (withP l req i j)) := by
  have hbig : l.length ≤ 140737488351232 := by simpa using hE.big
  have hX : withP l req i j = if i < 0 ∨ j < i ∨ (l.length : Int) < j ∨ req < 0 ∨ l.any (fun s => s.1 == req) = true ∨ 16 < l.length + 2 then none else some (withL l req i.toNat j.toNat) := rfl
  have hcon := Lib.hid (fun wx (h : Below w.heap.size w wx) (hq : wx.cell? ⟨w.heap.size, 0, none⟩ = some (.int .i64 req)) => contains_stop p c l 29 #[.pointer (some ⟨w.heap.size, 0, none⟩)] (fun s => s.1 == req) wx (hE.below h) (enters_of Try.func29 (by kernel_rfl) rfl)
    (fun r _ wy hy => with1_calls w.heap.size r.1 r.2 req wy ((hy.cell (World.block_lt_of_cell? wx _ hq)).trans hq)))
  generalize withP l req i j = X at hX ⊢
  generalize l.any (fun s => s.1 == req) = b at hX hcon
  replace hX := Lib.hid hX
  replace hE := Lib.hid hE
  go_enter Try.func11, Try.ntmps11
  go_upto_region 1 with fail
  refine wp_world' (fun wx => Blk wx w.heap.size #[.int .i64 req] 3 ∧ Below w.heap.size w wx) ⟨Blk.new _ _ _, new_below _ _⟩ ?_
  rintro w1 ⟨hB, hb⟩
  have hcn := Lib.hid (hcon.out w1 hb (hB.cell (i := 0) rfl))
  clear hcon
  go_wp2_with fail
  refine hcn.out.mono ?_
  rintro e w2 ⟨rfl, hb2⟩
  replace hB := hB.mod ((Mod.refl (fun _ => False) _).after hb2) (fun h => h)
  replace hb2 := hb.trans (hb2.mono hb.size)
  clear hcn hb
  have hq := hB.cell (i := 0) rfl
  by_cases c1 : i < 0
  · obtain rfl : X = none := by rw [hX.out, if_pos (.inl c1)]
    clear hX
    go_wp2
    go_ret2
    exact wi_noneN hb2
  by_cases c2 : i > j
  · obtain rfl : X = none := by rw [hX.out, if_pos (.inr (.inl c2))]
    clear hX
    go_wp2
    go_ret2
    exact wi_noneN hb2
  by_cases c3 : j > (l.length : Int)
  · obtain rfl : X = none := by rw [hX.out, if_pos (.inr (.inr (.inl c3)))]
    clear hX
    go_wp2
    go_ret2
    exact wi_noneN hb2
  by_cases c4 : req < 0
  · obtain rfl : X = none := by rw [hX.out, if_pos (.inr (.inr (.inr (.inl c4))))]
    clear hX
    go_wp2
    go_ret2
    exact wi_noneN hb2
  cases b with
  | true =>
    obtain rfl : X = none := by rw [hX.out, if_pos (.inr (.inr (.inr (.inr (.inl rfl)))))]
    clear hX
    go_wp2
    go_ret2
    exact wi_noneN hb2
  | false =>
    have s1 : IntKind.i64.wrap ((l.length : Int) + 2) = (l.length : Int) + 2 := IntWalk.i64_in _ (by omega)
    by_cases c5 : (l.length : Int) + 2 > 16
    · obtain rfl : X = none := by rw [hX.out, if_pos (.inr (.inr (.inr (.inr (.inr (by omega))))))]
      clear hX
      go_wp2
      go_ret2
      exact wi_noneN hb2
    obtain ⟨ni, rfl⟩ := Int.eq_ofNat_of_zero_le (show 0 ≤ i by omega)
    obtain ⟨nj, rfl⟩ := Int.eq_ofNat_of_zero_le (show 0 ≤ j by omega)
    have hw2 := Lib.hid (withL_len l req (i := ni) (j := nj) (by omega) (by omega))
    have hwf := Lib.hid (withL_flat l req ni nj)
    obtain rfl : X = some (withL l req ni nj) := by rw [hX.out, if_neg (by simp; omega), Int.toNat_natCast, Int.toNat_natCast]
    have d1 : ni ≤ nj := by omega
    have d2 : nj ≤ l.length := by omega
    have d3 : l.length ≤ 14 := by omega
    have HB := Lib.hid hB
    have HE := Lib.hid (hE.out.below hb2)
    clear hX hB
    go_upto_region 4 with fail
    have HB0 := HB.out
    have HE0 := HE.out.below ((Below.refl _ _).drew.alloc (Nat.le_refl _) (.cells (stV (req, 0)).toArray 81))
    have hE4 := Lib.hid (show Els (w2.drew.alloc (.cells (stV (req, 0)).toArray 81)) p 2 ((l.take ni).map stV) by rw [List.map_take]; exact HE0.take ni)
    refine wp_region_tell (X := Value) undef [6, 7] (fun x => [(41, .slice p l.length c), (42, .int .i64 ni), (43, .int .i64 ni), (44, .slice p ni ni), (45, .int .i64 req), (46, .agg #[.int .i64 req, .int .i64 0]), (47, .slice (some ⟨w2.heap.size, 0, none⟩) 1 1)] ++ [(48, x), (11, x)])
      (fun x k W' => (k = 0 ∧ W' = w2.drew) ∨ (k = 1 ∧ W' = w2.drew.alloc (.cells (stV (req, 0)).toArray 81)) ∨
        (k = 2 ∧ W'.ownsRow (w2.heap.size + 1) 81 2 x (ni + 1) (((l.take ni).map stV).flatten ++ stV (req, 0)) ∧ (w2.drew.alloc (.cells (stV (req, 0)).toArray 81)).grownBy W' none))
      (by kernel_rfl) (by kernel_rfl) (by kernel_rfl) (by kernel_rfl) (by kernel_rfl) (fun x => by kernel_rfl) (.inl ⟨rfl, rfl⟩) ?_ ?_
    · intro aF hAF
      have E0 : ∀ x, (aF x).eval (.tmp 0) = .slice p l.length c := by intro x; rw [hAF]; kernel_rfl
      have E2 : ∀ x, (aF x).eval (.tmp 2) = .int .i64 ni := by intro x; rw [hAF]; kernel_rfl
      have E5 : ∀ x, (aF x).eval (.tmp 5) = .pointer (some ⟨w.heap.size, 0, none⟩) := by intro x; rw [hAF]; kernel_rfl
      have T41 : ∀ x, (aF x).tmps[41]? = some (.slice p l.length c) := by intro x; rw [hAF]; kernel_rfl
      have E41 : ∀ x, (aF x).eval (.tmp 41) = .slice p l.length c := by intro x; rw [hAF]; kernel_rfl
      have T42 : ∀ x, (aF x).tmps[42]? = some (.int .i64 ni) := by intro x; rw [hAF]; kernel_rfl
      have E42 : ∀ x, (aF x).eval (.tmp 42) = .int .i64 ni := by intro x; rw [hAF]; kernel_rfl
      have T43 : ∀ x, (aF x).tmps[43]? = some (.int .i64 ni) := by intro x; rw [hAF]; kernel_rfl
      have E43 : ∀ x, (aF x).eval (.tmp 43) = .int .i64 ni := by intro x; rw [hAF]; kernel_rfl
      have T44 : ∀ x, (aF x).tmps[44]? = some (.slice p ni ni) := by intro x; rw [hAF]; kernel_rfl
      have E44 : ∀ x, (aF x).eval (.tmp 44) = .slice p ni ni := by intro x; rw [hAF]; kernel_rfl
      have T45 : ∀ x, (aF x).tmps[45]? = some (.int .i64 req) := by intro x; rw [hAF]; kernel_rfl
      have E45 : ∀ x, (aF x).eval (.tmp 45) = .int .i64 req := by intro x; rw [hAF]; kernel_rfl
      have T46 : ∀ x, (aF x).tmps[46]? = some (.agg #[.int .i64 req, .int .i64 0]) := by intro x; rw [hAF]; kernel_rfl
      have E46 : ∀ x, (aF x).eval (.tmp 46) = .agg #[.int .i64 req, .int .i64 0] := by intro x; rw [hAF]; kernel_rfl
      have T47 : ∀ x, (aF x).tmps[47]? = some (.slice (some ⟨w2.heap.size, 0, none⟩) 1 1) := by intro x; rw [hAF]; kernel_rfl
      have E47 : ∀ x, (aF x).eval (.tmp 47) = .slice (some ⟨w2.heap.size, 0, none⟩) 1 1 := by intro x; rw [hAF]; kernel_rfl
      have T48 : ∀ x, (aF x).tmps[48]? = some x := by intro x; rw [hAF]; kernel_rfl
      have E48 : ∀ x, (aF x).eval (.tmp 48) = x := by intro x; rw [hAF]; kernel_rfl
      have T11 : ∀ x, (aF x).tmps[11]? = some x := by intro x; rw [hAF]; kernel_rfl
      replace hAF := Lib.hid hAF
      refine ⟨?_, ?_, ?_, ?_, ?_, ?_, ?_, ?_, ?_, trivial⟩
      · exact opOk2_quiet _ (by intro x d hd _; cases hd; exact T41 x) (fun _ => rfl) (by decide) fun x k W' hc => sv (run_mov rfl (E0 x)) hc
      · exact opOk2_quiet _ (by intro x d hd _; cases hd; exact T42 x) (fun _ => rfl) (by decide) fun x k W' hc => sv (run_mov rfl (E2 x)) hc
      · exact opOk2_quiet _ (by intro x d hd _; cases hd; exact T43 x) (fun _ => rfl) (by decide) fun x k W' hc => sv (run_mov rfl (E2 x)) hc
      · exact opOk2_quiet _ (by intro x d hd _; cases hd; exact T44 x) (fun _ => rfl) (by decide) fun x k W' hc => sv (run_slhm rfl (E41 x) (E42 x) (E43 x) (Nat.le_refl _) (by omega)) hc
      · exact opOk2_ahead 0 _ (by intro x d hd _; cases hd; exact T45 x) (fun _ => rfl) (by decide) (by kernel_rfl) (by kernel_rfl) fun x k W' hk hc => sv (run_load1 rfl (E5 x) (run_i64 (by
          rcases hc with ⟨_, rfl⟩ | ⟨h, _⟩ | ⟨h, _⟩
          · exact HB0.drew.cell (i := 0) rfl
          all_goals omega))) hc
      · exact opOk2_quiet _ (by intro x d hd _; cases hd; exact T46 x) (fun _ => rfl) (by decide) fun x k W' hc => sv (run_bld2 rfl (E45 x) rfl) hc
      · exact opOk2_chain 0 rfl rfl (by decide) fun x W' hc => by
          obtain rfl : W' = w2.drew := by
            rcases hc with ⟨_, rfl⟩ | ⟨h, _⟩ | ⟨h, _⟩
            · rfl
            all_goals omega
          rw [run_bst rfl (E46 x)]
          exact ⟨x, agree_same _ _, (by intro d hd _; cases hd; exact T47 _), .inr (.inl ⟨rfl, rfl⟩)⟩
      · exact opOk2_chain 1 rfl rfl (by decide) fun x W' hc => by
          obtain rfl : W' = w2.drew.alloc (.cells (stV (req, 0)).toArray 81) := by
            rcases hc with ⟨h, _⟩ | ⟨_, rfl⟩ | ⟨h, _⟩
            · omega
            · rfl
            · omega
          refine upon_appF st_el rfl p ni _ (E44 x) hE4.out (by simp; omega) (by omega) ⟨w2.heap.size, 0, none⟩ 1 (stV (req, 0)) (E47 x) rfl (row_cells (Blk.new w2.drew _ _)) (st_one _) fun v' w' h3 h4 => ?_
          exact ⟨v', (by rw [hAF.out]; exact agree_any (by kernel_rfl) (by kernel_rfl)), (by intro d hd _; cases hd; exact T48 _), .inr (.inr ⟨rfl, by simpa using h3, h4⟩)⟩
      · exact opOk2_quiet (fun x => x) (by intro x d hd _; cases hd; exact T11 x) (fun _ => rfl) (by decide) fun x k W' hc => sv (run_asg rfl (E48 x)) hc
    · intro x w4 hc
      simp only [putAll, List.foldl_cons, List.foldl_nil, List.cons_append, List.nil_append, Act.put, List.setIfInBounds_toArray, List.set_cons_succ, List.set_cons_zero]
      obtain ⟨h3, h4⟩ : w4.ownsRow (w2.heap.size + 1) 81 2 x (ni + 1) (((l.take ni).map stV).flatten ++ stV (req, 0)) ∧ (w2.drew.alloc (.cells (stV (req, 0)).toArray 81)).grownBy w4 none := by
        rcases hc with ⟨h, _⟩ | ⟨h, _⟩ | ⟨_, h3, h4⟩
        · cases h
        · cases h
        · exact ⟨h3, h4⟩
      have hm : Mod (fun _ => False) w2 w4 := ((Mod.refl _ w2).drew.alloc _).grown h4 (fun k h => by cases h)
      have HB4 := HB0.mod hm (fun h => h)
      have hb4 := hb2.trans (hm.below hb2.size (fun _ h => h.elim))
      have hsz := HB0.lt
      have hbs : w2.heap.size + 1 ≤ w4.heap.size := by have := h4.size; simpa using this
      have hE4' := slB_els (c := c) (hE.out.below hb4) d1 (by omega)
      clear hc h4 HE hE4 HE0 HB HB0 hq hm
      replace hsz : w.heap.size < w2.heap.size + 1 := by omega
      generalize w2.heap.size + 1 = b4 at h3 hbs hsz
      clear hb2
      have hO4 := Lib.hid h3
      have HB4 := Lib.hid HB4
      have hE4 := Lib.hid hE4'
      replace hb4 := Lib.hid hb4
      have hbs4 := Lib.hid hbs
      clear h3 hE4' hbs
      go_upto_region 6 with (first | (refine wpList_v rfl (.slice (slB p ni c) (nj - ni) (c - ni)) (run_sllh rfl rfl rfl rfl d1 (by omega)) ?_) |
        (refine wpList_appE st_el rfl _ _ rfl b4 hbs4.out x (ni + 1) _ rfl hO4.out (by omega) (slB p ni c) (nj - ni) (c - ni) _ rfl hE4.out (by simp; omega) (by omega) (stV_all _) ?_; intro v5 w5 hO5 hg5))
      have HB5 := Lib.hid (grown_blk HB4.out hO4.out hsz hg5)
      have hb5 := Lib.hid (grown_low hb4.out (Nat.le_of_lt hsz) (Nat.le_refl _) hO4.out hg5)
      have hq5 := HB5.out.cell (i := 0) rfl
      have hO5A := Lib.hid (own_mod hO5 ((Mod.refl (fun _ => False) _).alloc (.cells (stV (req, 1)).toArray 81)) (fun _ _ h => h))
      have hs5 : b4 ≤ w5.heap.size := Nat.le_trans hbs4.out hg5.size
      have hbsA := Lib.hid (show b4 ≤ (w5.alloc (.cells (stV (req, 1)).toArray 81)).heap.size by simp; omega)
      have hb5A := Lib.hid (hb5.out.alloc hb5.out.size (.cells (stV (req, 1)).toArray 81))
      clear hO5 hg5 hO4 HB4 hE4 hb4 hbs4
      go_upto_region 7 with (first | (refine wpList_bs1 rfl 48 1 0 _ rfl (.agg #[.int .i64 req, .int .i64 1]) rfl _ _ (rsl_st req 1 _) ?_) |
        (refine wpList_appG st_el rfl _ _ rfl b4 hbsA.out v5 (ni + 1 + (nj - ni)) _ rfl hO5A.out (by omega) ⟨w5.heap.size, 0, none⟩ 1 1 (stV (req, 1)) rfl rfl (by omega) (row_cells (Blk.new _ _ _)) (st_one _) ?_; intro v6 w6 hO6 hg6))
      have hb6 := Lib.hid (grown_low hb5A.out (Nat.le_of_lt hsz) (Nat.le_refl _) hO5A.out hg6)
      have hs6 := Lib.hid (Nat.le_trans hbsA.out hg6.size)
      have hE6 := Lib.hid (slB_els (c := c) (i := nj) (j := l.length) (hE.out.below hb6.out) d2 hc)
      replace hO6 := Lib.hid hO6
      clear hg6 hO5A hbsA hb5A hb5 hq5 HB5 hs5
      go_wp2_with (first | (refine wpList_v rfl (.slice (slB p nj c) (l.length - nj) (c - nj)) (run_sll rfl rfl rfl d2) ?_) |
        (refine wpList_appE st_el rfl _ _ rfl b4 hs6.out v6 (ni + 1 + (nj - ni) + 1) _ rfl hO6.out (by omega) (slB p nj c) (l.length - nj) (c - nj) _ rfl hE6.out (by simp) (by omega) (stV_all _) ?_; intro v7 w7 hO7 hg7))
      have hb7 := grown_low hb6.out (Nat.le_of_lt hsz) (Nat.le_refl _) hO6.out hg7
      obtain ⟨q, m, d, rfl⟩ := own_isS hO7
      have hEl := own_els (R := (withL l req ni nj).map stV) (stV_len _) (by
        rw [← hwf.out, List.length_map, hw2.out]
        have e : ni + 1 + (nj - ni) + 1 + (l.length - nj) = l.length + 2 := by omega
        rw [e] at hO7
        exact hO7) (by rw [List.length_map, hw2.out]; omega)
      rw [List.length_map] at hEl
      obtain ⟨h1, h2, h3, h4⟩ := hEl
      subst h2
      have hcap := own_cap hO7
      replace h1 := Lib.hid h1
      replace hb7 := Lib.hid hb7
      have h5 := Lib.hid (fun a (ha : q = some a) => (by have := (h4 a ha).1; omega : w.heap.size ≤ a.block))
      clear hO7 hg7 hO6 hE6 hs6 hb6 hE h4
      go_ret2
      exact ⟨⟨q, d, rfl, ⟨h3, hcap⟩, h1.out, h5.out⟩, hb7.out⟩
theorem with_calls (p : Option Addr) (c : Nat) (l : List (Int × Int)) (req i j : Int) (w : World) (hE : Els w p 2 (l.map stV)) (hc : l.length ≤ c) :
    Calls Try.prog 11 #[.slice p l.length c, .int .i64 req, .int .i64 i, .int .i64 j] w (WiPost w (withP l req i j)) :=
  (withN_calls p c l req i j w hE hc).mono fun _ _ ⟨⟨q, d, h1, h2, h3, _⟩, hb⟩ => ⟨⟨q, d, h1, h2, h3⟩, hb⟩
end Go.Proofs.Ytpbmeeogledmdae
namespace Go.Proofs.Ytpbmeeogledmdae
open Go.RowKit

/-- what is still to come of a row with a request more, where so many stops are to come ahead of its places -/
def rstW (req : Int) : List (Int × Int) → Int → Int → List (Int × Int)
  | [], i, j => (if i = 0 then [(req, 0)] else []) ++ (if j = 0 then [(req, 1)] else [])
  | s :: r, i, j => (if i = 0 then [(req, 0)] else []) ++ (if j = 0 then [(req, 1)] else []) ++ s :: rstW req r (i - 1) (j - 1)
theorem rstW_neg (req : Int) : ∀ (l : List (Int × Int)) (i j : Int), i < 0 → j < 0 → rstW req l i j = l
  | [], i, j, hi, hj => by simp [rstW, show ¬ i = 0 by omega, show ¬ j = 0 by omega]
  | s :: r, i, j, hi, hj => by simp [rstW, show ¬ i = 0 by omega, show ¬ j = 0 by omega, rstW_neg req r (i - 1) (j - 1) (by omega) (by omega)]
theorem rstW_mid (req : Int) : ∀ (l : List (Int × Int)) (i : Int) (j : Nat), i < 0 → j ≤ l.length → rstW req l i j = l.take j ++ (req, 1) :: l.drop j
  | [], i, j, hi, hj => by
    obtain rfl : j = 0 := by simpa using hj
    simp [rstW, show ¬ i = 0 by omega]
  | s :: r, i, 0, hi, hj => by simp [rstW, show ¬ i = 0 by omega, rstW_neg req r (i - 1) (-1) (by omega) (by omega)]
  | s :: r, i, j + 1, hi, hj => by
    have := rstW_mid req r (i - 1) j (by omega) (by simpa using hj)
    simp [rstW, show ¬ i = 0 by omega, show ¬ ((j : Int) + 1) = 0 by omega, show ((j : Int) + 1 - 1) = j by omega, this]
theorem rstW_all (req : Int) : ∀ (l : List (Int × Int)) (i j : Nat), i ≤ j → j ≤ l.length → rstW req l i j = withL l req i j
  | [], i, j, hi, hj => by
    obtain rfl : j = 0 := by simpa using hj
    obtain rfl : i = 0 := by omega
    simp [rstW, withL]
  | s :: r, 0, 0, hi, hj => by simp [rstW, withL, rstW_neg req r (-1) (-1) (by omega) (by omega)]
  | s :: r, 0, j + 1, hi, hj => by
    have := rstW_mid req r (-1) j (by omega) (by simpa using hj)
    simp [rstW, withL, show ¬ ((j : Int) + 1) = 0 by omega, show ((j : Int) + 1 - 1) = j by omega, this]
  | s :: r, i + 1, 0, hi, hj => by omega
  | s :: r, i + 1, j + 1, hi, hj => by
    have := rstW_all req r i j (by omega) (by simpa using hj)
    simp [rstW, show ¬ ((j : Int) + 1) = 0 by omega, show ((j : Int) + 1 - 1) = j by omega, show ¬ ((i : Int) + 1) = 0 by omega, show ((i : Int) + 1 - 1) = i by omega, this, withL, show j + 1 - (i + 1) = j - i by omega]

/-- a row without a request -/
def woP (l : List (Int × Int)) (req : Int) : List (Int × Int) := l.filter fun s => s.1 != req
theorem woP_succ (l : List (Int × Int)) (req : Int) {k : Nat} (hk : k < l.length) : woP (l.take (k + 1)) req = woP (l.take k) req ++ (if l[k].1 = req then [] else [l[k]]) := by
  unfold woP
  rw [List.take_succ_eq_append_getElem hk, List.filter_append]
  congr 1
  by_cases h : l[k].1 = req
  · simp [h]
  · simp [h]
theorem woP_len (l : List (Int × Int)) (req : Int) : (woP l req).length ≤ l.length := List.length_filter_le _ _
theorem rq_el : ElT Try.prog 30 61 10 80 := ⟨Try.underlying30, by kernel_rfl, by kernel_rfl, by kernel_rfl, by omega, by omega⟩
theorem rq_one (q : Rq) : ∀ v ∈ rqV q, v.oneCell' = true := by simp [rqV, Value.oneCell']
theorem rq_all (t : List Rq) : ∀ z ∈ t.map rqV, ∀ u ∈ z, u.oneCell' = true := by
  intro z hz
  obtain ⟨q, _, rfl⟩ := List.mem_map.1 hz
  exact rq_one q
theorem rsl_rq (q : Rq) (w : World) : (Instr.buildSlice 30 1 #[(0, .agg (rqV q).toArray)]).run Try.prog w = .ok (.slice (some ⟨w.heap.size, 0, none⟩) 1 1) (w.alloc (.cells (rqV q).toArray 61)) := by kernel_rfl
theorem wpList_bs0 {P : Program} {ops : Array Oper} {rest : List Oper} {o : Oper} {a : Act} {w : World} {Q : Exit → Act → World → Prop} (hgd : o.guard = none) (t : TypeId) (n : Nat) (ho : o.op = .buildSlice t n #[])
    (v : Value) (w' : World) (hrun : (Instr.buildSlice t n #[]).run P w = .ok v w') (h : wpList P ops Q rest (a.put o.dst v) w') : wpList P ops Q (o :: rest) a w :=
  wpList_bsd hgd hrun ho (by simp) h
theorem Mod.step {S T : Nat → Prop} {a b c : World} (h : Mod S a b) (k : Mod T b c) (hT : ∀ r, r < a.heap.size → T r → S r) : Mod S a c :=
  ⟨k.os.trans h.os, k.tape.trans h.tape, k.output.trans h.output, Nat.le_trans h.size k.size, fun r hr hs => (k.block r (Nat.lt_of_lt_of_le hr h.size) (fun ht => hs (hT r hr ht))).trans (h.block r hr hs)⟩
theorem add_block (a : Addr) (n : Nat) : (a.add n).block = a.block := by
  unfold Addr.add
  split <;> rfl
theorem run_rem64 {ρ : Operand → Value} {o : Oper} {w : World} {x y : Operand} {n m : Int} {r : Nat} (ho : o.op = .binOp .rem 3 x y 3) (hx : ρ x = .int .i64 n) (hy : ρ y = .int .i64 m) (hn : 0 ≤ n) (hm : 0 < m) (hr : (r : Int) = n % m) (hb : m ≤ 9223372036854775807) :
    (execOp ρ o).run Try.prog w = .ok (.value (.int .i64 r)) w := by
  have h0 : ¬ m = 0 := by omega
  have h1 : n.tmod m = n % m := Int.tmod_eq_emod_of_nonneg hn
  have h2 : 0 ≤ n % m := Int.emod_nonneg _ h0
  have h3 : n % m < m := Int.emod_lt_of_pos _ hm
  have h4 : IntKind.i64.wrap (n % m) = n % m := IntWalk.i64_in _ (by omega)
  unfold execOp
  simp only [ho, hx, hy]
  go_simp
end Go.Proofs.Ytpbmeeogledmdae
