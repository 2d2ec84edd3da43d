/-
  Layer 12, the program's: All, least, Best, Put.
  Layer 12, the program's: least, Best, Put.
  Layer 12, the program's: Put.
-/
import Derived.Test.YtpbmeeogledmdaeCaP
import Derived.Sort.CutIn
namespace Go.Proofs.Ytpbmeeogledmdae
open Go.RowKit
attribute [local go_sem] Oper.semAt_some

section
variable {F : Fence} {n : Nat} {P : Program} {ops : Array Oper} {rest : List Oper} {o : Oper} {a : Act} {w w' : World} {Q : Exit → Act → World → Prop}
theorem wpListIn_bs1C (hF : ∀ f, F.fn f) (hs : o.semAt F.round a.eval = execOp a.eval o) (hgd : Region.wanted o (yielded ops a.tmps) = true) (t : TypeId) (m i : Nat) (x : Operand) (ho : o.op = .buildSlice t m #[(i, x)])
    (vx : Value) (hx : a.eval x = vx) (v : Value) (w' : World) (hrun : (Instr.buildSlice t m #[(i, vx)]).run P w = .ok v w') (h : wpListIn F n P ops Q rest (a.put o.dst v) w') : wpListIn F n P ops Q (o :: rest) a w :=
  wpListIn_v hF hs hgd v (by unfold execOp; simp only [ho, List.map_toArray, List.map_cons, List.map_nil, hx, Sem.run_bind, hrun, Sem.run_pure, Result.andThen_ok]) h
theorem wpListIn_appC {T E : TypeId} {sz b : Nat} (hT : ElT P T E sz b) (hF : ∀ f, F.fn f) (hs : o.semAt F.round a.eval = execOp a.eval o) (hgd : Region.wanted o (yielded ops a.tmps) = true) (x y : Operand) (ho : o.op = .call { callee := .builtin .append, args := #[x, y], argTypes := #[T, T] })
    (base : Nat) (hbase : base ≤ w.heap.size) (v : Value) (m : Nat) (xs : List Value) (hx : a.eval x = v) (hown : w.ownsRow base E sz v m xs) (hm : m ≤ 100000) (q : Addr) (k c : Nat) (news : List Value) (hy : a.eval y = .slice (some q) k c) (hl : news.length = k * sz) (hk : k ≤ 1000)
    (hc : ∀ j u, news[j]? = some u → w.cell? (q.add j) = some u) (h1 : ∀ u ∈ news, u.oneCell' = true)
    (h : ∀ v' w', w'.ownsRow base E sz v' (m + k) (xs ++ news) → w.grownBy w' v.ownBlock → wpListIn F n P ops Q rest (a.put o.dst v') w') : wpListIn F n P ops Q (o :: rest) a w := by
  obtain ⟨v', w', h2, h3, h4⟩ := run_appG hT base hbase v m xs ho hx hown hm q k c news hy hl hk hc h1
  exact wpListIn_v hF hs hgd v' h2 (h v' w' h3 h4)
theorem wpListIn_build3C (hF : ∀ f, F.fn f) (hs : o.semAt F.round a.eval = execOp a.eval o) (hgd : Region.wanted o (yielded ops a.tmps) = true) (ty : TypeId) (x y z : Operand) (ho : o.op = .build ty #[(0, x), (1, y), (2, z)])
    (vx vy vz : Value) (hx : a.eval x = vx) (hy : a.eval y = vy) (hz : a.eval z = vz) (v : Value) (hrun : (Instr.build ty #[(0, vx), (1, vy), (2, vz)]).run P w = .ok v w) (h : wpListIn F n P ops Q rest (a.put o.dst v) w) : wpListIn F n P ops Q (o :: rest) a w :=
  wpListIn_v hF hs hgd v (by unfold execOp; simp only [ho, List.map_toArray, List.map_cons, List.map_nil, hx, hy, hz, Sem.run_bind, hrun, Sem.run_pure, Result.andThen_ok]) h
end
theorem wy_el : ElT Try.prog 149 120 3 24 := ⟨Try.underlying149, by kernel_rfl, by kernel_rfl, by kernel_rfl, by omega, by omega⟩
theorem run_bwy (a b c : Int) (w : World) : (Instr.build 120 #[(0, .int .i64 a), (1, .int .i64 b), (2, .int .i64 c)]).run Try.prog w = .ok (.agg (tmV (a, b, c)).toArray) w := by kernel_rfl
theorem rsl_wy (u : Wy) (w : World) : (Instr.buildSlice 149 1 #[(0, .agg (tmV u).toArray)]).run Try.prog w = .ok (.slice (some ⟨w.heap.size, 0, none⟩) 1 1) (w.alloc (.cells (tmV u).toArray 120)) := by kernel_rfl
theorem rsl_er (w : World) : (Instr.buildSlice 167 3 #[(0, .int .i64 0), (1, .int .i64 10), (2, .int .i64 9)]).run Try.prog w = .ok (.slice (some ⟨w.heap.size, 0, none⟩) 3 3) (w.alloc (.cells #[.int .i64 0, .int .i64 10, .int .i64 9] 41)) := by kernel_rfl
theorem run_cellW {w : World} {g : Nat} {p : Option Addr} {n c : Nat} (h : w.cell? ⟨g, 0, none⟩ = some (.slice p n c)) : (loadVar 149 ⟨g, 0, none⟩).run Try.prog w = .ok (.slice p n c) w := by go_simp
theorem own_lenC {w : World} {base : Nat} {E : TypeId} {n k c m : Nat} {p : Option Addr} {xs : List Value} (h : w.ownsRow base E n (.slice p k c) m xs) : k = m := by
  rcases h.2 with ⟨hv, h0⟩ | ⟨g, cap, cur, hv, _⟩
  · cases hv; exact h0.symm
  · cases hv; rfl
theorem els_nilC (w : World) (n : Nat) : Els w none n [] := ⟨fun _ => rfl, fun x hx => (by cases hx), by simp, fun a ha => by cases ha⟩
def erB (e : Int) : Bool := decide (e = 0 ∨ e = 10 ∨ e = 9)
set_option maxHeartbeats 1000000 in
set_option maxRecDepth 100000 in
/-- slices.Index, at the three errors -/
theorem indexE_calls (g : Nat) (e : Int) (w : World) (hB : Blk w g #[.int .i64 0, .int .i64 10, .int .i64 9] 41) :
    Calls Try.prog 74 #[.slice (some ⟨g, 0, none⟩) 3 3, .int .i64 e] w fun e' w' => (∃ k : Int, e' = .returned (.int .i64 k) ∧ decide (0 ≤ k) = erB e) ∧ w = w' := by
  have k0 := hB.cell (i := 0) rfl
  have k1 := hB.cell (i := 1) rfl
  have k2 := hB.cell (i := 2) rfl
  clear hB
  have hcell : Hid (∀ k : Nat, k < 3 → ∃ x : Int, w.cell? ⟨g, k, none⟩ = some (.int .i64 x) ∧ (x = 0 ∧ k = 0 ∨ x = 10 ∧ k = 1 ∨ x = 9 ∧ k = 2)) := Lib.hid (fun k hk => by
    rcases (show k = 0 ∨ k = 1 ∨ k = 2 by omega) with rfl | rfl | rfl
    · exact ⟨0, k0, .inl ⟨rfl, rfl⟩⟩
    · exact ⟨10, k1, .inr (.inl ⟨rfl, rfl⟩)⟩
    · exact ⟨9, k2, .inr (.inr ⟨rfl, rfl⟩)⟩)
  clear k0 k1 k2
  go_enter Try.func74, Try.ntmps74
  go_wp2_with fail
  go_loopw [8] (fun i wr => ∃ k : Nat, k ≤ 3 ∧ i = .int .i64 k ∧ Hid ((0 < k → e ≠ 0) ∧ (1 < k → e ≠ 10) ∧ (2 < k → e ≠ 9)) ∧ wr = w) (fun i _ => 3 - (intOf i).toNat)
  case atStart => exact ⟨0, by omega, rfl, Lib.hid (by omega), rfl⟩
  case round =>
    obtain ⟨k, hk, rfl, hR, hwr⟩ := hrel
    subst hwr
    by_cases hlt : k < 3
    · have hltI : (k : Int) < 3 := by omega
      have hk0 : (0 : Int) ≤ (k : Int) := by omega
      have s1 : IntKind.i64.wrap ((k : Int) + 1) = (k : Int) + 1 := IntWalk.i64_in _ (by omega)
      obtain ⟨x, hc, hx⟩ := hcell.out k hlt
      by_cases h : e = x
      · have he : (e == x) = true := by simpa using h
        have hfin : Hid (decide ((0 : Int) ≤ (k : Int)) = erB e) := Lib.hid (by
          rw [decide_eq_true hk0]
          unfold erB
          symm
          apply decide_eq_true
          omega)
        replace h := Lib.hid h
        replace hx := Lib.hid hx
        clear hR
        go_wp2_with fail
        go_ret
        exact ⟨⟨_, rfl, hfin.out⟩, rfl⟩
      · have he : (e == x) = false := beq_eq_false_iff_ne.2 h
        have hR2 := Lib.hid (show (0 < k + 1 → e ≠ 0) ∧ (1 < k + 1 → e ≠ 10) ∧ (2 < k + 1 → e ≠ 9) by have := hR.out; omega)
        replace h := Lib.hid h
        replace hx := Lib.hid hx
        clear hR
        go_wp2_with fail
        go_roundw
        case rel => exact ⟨k + 1, by omega, by simp, hR2, by first | rfl | trivial⟩
        case measure => simp [intOf]; omega
    · obtain rfl : k = 3 := by omega
      have hfin : Hid (decide ((0 : Int) ≤ -1) = erB e) := Lib.hid (by
        have := hR.out
        unfold erB
        rw [decide_eq_false (by omega), decide_eq_false (by omega)])
      clear hR hcell
      go_wp2_with fail
      go_ret
      exact ⟨⟨_, rfl, hfin.out⟩, rfl⟩
set_option maxRecDepth 100000 in
theorem containsE_calls (g : Nat) (e : Int) (w : World) (hB : Blk w g #[.int .i64 0, .int .i64 10, .int .i64 9] 41) :
    Calls Try.prog 70 #[.slice (some ⟨g, 0, none⟩) 3 3, .int .i64 e] w fun e' w' => e' = .returned (.bool (erB e)) ∧ w = w' := by
  have hi := Lib.hid (indexE_calls g e w hB)
  clear hB
  go_enter Try.func70, Try.ntmps70
  go_wp2_with fail
  refine hi.out.mono ?_
  rintro e w1 ⟨⟨k, rfl, hk⟩, rfl⟩
  replace hk := Lib.hid hk
  go_wp2_with fail
  go_ret
  rw [← hk.out]
  exact ⟨rfl, rfl⟩
theorem res_ctC {P : Program} {fn : Func} {p q : Tmp} {ty : TypeId} (h : fn.results = #[.cell p ty, .tmp q]) {tmps : Array Value} {w : World} {g : Nat} {v : Value}
    (hp : tmps.getD p undef = .pointer (some ⟨g, 0, none⟩)) (hrun : (loadVar ty ⟨g, 0, none⟩).run P w = .ok v w) :
    (results fn tmps).run P w = .ok (.tuple #[v, tmps.getD q undef]) w := by
  have hp' : tmps[p]?.getD undef = .pointer (some ⟨g, 0, none⟩) := by simpa using hp
  simp [results, h, hp', asAddr, hrun]
/-- where the walk over the pairs of places stands -/
structure AlS (w : World) (V : Array Value) (p p' : Option Addr) (c c' n m : Nat) (req : Int) (base : Nat) (ws : List Wy) (q : Option Addr) (k d : Nat) (W : World) : Prop where
  v : Blk W w.heap.size V 47
  l : Blk W (w.heap.size + 1) #[.slice p n c] 48
  t : Blk W (w.heap.size + 2) #[.slice p' m c'] 30
  r : Blk W (w.heap.size + 3) #[.int .i64 req] 3
  b : Blk W (w.heap.size + 4) #[.slice q k d] 149
  o : W.ownsRow base 120 3 (.slice q k d) ws.length (ws.map tmV).flatten
  low : Below w.heap.size w W
theorem AlS.mod {w : World} {V : Array Value} {p p' : Option Addr} {c c' n m : Nat} {req : Int} {base : Nat} {ws : List Wy} {q : Option Addr} {k d : Nat} {A B : World} (h : AlS w V p p' c c' n m req base ws q k d A)
    {S : Nat → Prop} (hm : Mod S A B) (hS : ∀ k, S k → w.heap.size + 5 ≤ k ∧ k < base) : AlS w V p p' c c' n m req base ws q k d B :=
  ⟨h.v.mod hm (fun s => by have := hS _ s; omega), h.l.mod hm (fun s => by have := hS _ s; omega), h.t.mod hm (fun s => by have := hS _ s; omega), h.r.mod hm (fun s => by have := hS _ s; omega), h.b.mod hm (fun s => by have := hS _ s; omega),
    own_mod h.o hm (fun g hg s => by have := hS _ s; have := (own_blk_lt h.o hg).1; omega), h.low.trans (hm.below h.low.size (fun k s => by have := hS _ s; omega))⟩
theorem blk_newAtC {w : World} {g : Nat} (hg : g = w.heap.size) (C : Array Value) (t : TypeId) : Blk (w.alloc (.cells C t)) g C t := by
  subst hg
  exact Blk.new _ _ _
theorem als_start (w : World) (V : Array Value) (p p' : Option Addr) (c c' n m : Nat) (req : Int) (base : Nat) :
    AlS w V p p' c c' n m req base [] none 0 0 (((((w.alloc (.cells V 47)).alloc (.cells #[.slice p n c] 48)).alloc (.cells #[.slice p' m c'] 30)).alloc (.cells #[.int .i64 req] 3)).alloc (.cells #[.slice none 0 0] 149)) :=
  ⟨((((Blk.new _ _ _).alloc _).alloc _).alloc _).alloc _, (((blk_newAtC (by simp) _ _).alloc _).alloc _).alloc _, ((blk_newAtC (by simp) _ _).alloc _).alloc _, (blk_newAtC (by simp) _ _).alloc _, blk_newAtC (by simp) _ _, World.ownsRow_nil _ _ _ _,
    ((((new_below _ _).alloc (by simp) _).alloc (by simp; omega) _).alloc (by simp; omega) _).alloc (by simp; omega) _⟩
def AlPost (w : World) (R : List Wy × Int) (e : Ending) (w' : World) : Prop :=
  (∃ q d, e = .returned (.tuple #[.slice q R.1.length d, .int .i64 R.2]) ∧ R.1.length ≤ d ∧ Els w' q 3 (R.1.map tmV)) ∧ Below w.heap.size w w'
set_option maxHeartbeats 4000000 in
set_option maxRecDepth 100000 in
theorem all_calls (x y cp st en req : Int) (p p' : Option Addr) (c c' : Nat) (l : List (Int × Int)) (t : List Rq) (w : World) (hL : Els w p 2 (l.map stV)) (hc : l.length ≤ c) (hT : Els w p' 10 (t.map rqV)) :
    Calls Try.prog 61 #[.agg #[.int .i64 x, .int .i64 y, .int .i64 cp, .int .i64 st, .int .i64 en], .slice p l.length c, .slice p' t.length c', .int .i64 req] w (AlPost w (allP x y cp st en l t req)) := by
  have hr := fun wx (h : Below w.heap.size w wx) i j => rise_calls x y cp st en req i j p p' c c' l t wx (hL.below h) hc (hT.below h)
  obtain ⟨ri, wys, hri, hw0, hws, hwl, hX⟩ : ∃ (ri : Int → Int → Int × Int) (wys : List (Int × Int) → List Wy), (∀ i j, riseP x y cp st en l t req i j = ri i j) ∧ wys [] = [] ∧
      (∀ ps p, wys (ps ++ [p]) = wys ps ++ if (ri p.1 p.2).2 = 0 then [(p.1, p.2, (ri p.1 p.2).1)] else []) ∧ (∀ ps, (wys ps).length ≤ ps.length) ∧
      allP x y cp st en l t req = if (ri 0 0).2 = 0 ∨ (ri 0 0).2 = 10 ∨ (ri 0 0).2 = 9 then (wys (prs l.length), 0) else ([], (ri 0 0).2) :=
    ⟨fun i j => riseP x y cp st en l t req i j, wysP x y cp st en l t req, fun _ _ => rfl, rfl, fun ps p => wysP_snoc x y cp st en l t req ps p, wysP_len x y cp st en l t req, rfl⟩
  simp only [hri] at hr
  replace hr := Lib.hid hr
  generalize allP x y cp st en l t req = X at hX ⊢
  replace hX := Lib.hid hX
  replace hws := Lib.hid hws
  replace hwl := Lib.hid hwl
  replace hw0 := Lib.hid hw0
  obtain ⟨V, hV⟩ : ∃ V : Array Value, #[.int .i64 x, .int .i64 y, .int .i64 cp, .int .i64 st, .int .i64 en] = V := ⟨_, rfl⟩
  have hsV : V.size = 5 := by rw [← hV]; rfl
  have hlv := Lib.hid (fun wx (h : Blk wx w.heap.size V 47) => run_load_row' (P := Try.prog) wx w.heap.size 47 V 47 _ h Try.underlying47 rfl (by rw [hsV]; kernel_rfl))
  rw [hV] at hr ⊢
  clear hV hsV hri hL hT
  have hple := prs_leC l.length
  refine calls_of_all fun nn => ?_
  refine callsIn_of_wp_marks Try.func61 rfl trivial ?_ rfl
  simp only [Try.ntmps61, List.size_toArray, List.length_cons, List.length_nil, Nat.reduceAdd, Nat.reduceSub, Array.replicate_succ, Array.replicate_zero, List.push_toArray, List.append_toArray, List.nil_append, List.cons_append]
  refine wpIn_wide.2 ?_
  go_upto_region 1 with fail
  refine wp_world' (fun wx => AlS w V p p' c c' l.length t.length req 0 [] none 0 0 wx) (als_start _ _ _ _ _ _ _ _ _ _) ?_
  rintro w1 hA
  have hlv1 := Lib.hid (hlv.out _ hA.v)
  have k1 := hA.l.cell (i := 0) rfl
  have k2 := hA.t.cell (i := 0) rfl
  have k3 := hA.r.cell (i := 0) rfl
  have hr1 := Lib.hid (hr.out _ hA.low 0 0)
  have hA1 := Lib.hid hA
  clear hA
  go_wp2_with (refine wpList_load_v rfl 47 _ rfl ⟨w.heap.size, 0, none⟩ rfl _ hlv1.out ?_)
  refine hr1.out.mono ?_
  rintro e w2 ⟨rfl, hb2⟩
  have hA := hA1.out.mod ((Mod.refl (fun _ => False) _).after hb2) (fun k h => h.elim)
  clear hA1 hb2 k1 k2 k3 hlv1 hr1
  obtain ⟨E, hE⟩ : ∃ E, (ri 0 0).2 = E := ⟨_, rfl⟩
  obtain ⟨E1, hE1⟩ : ∃ E1, (ri 0 0).1 = E1 := ⟨_, rfl⟩
  have hX' := hX.out
  rw [hE] at hX' ⊢
  rw [hE1]
  have hc3 := Lib.hid (containsE_calls w2.heap.size E (w2.alloc (.cells #[.int .i64 0, .int .i64 10, .int .i64 9] 41)) (Blk.new _ _ _))
  have hA3 := Lib.hid (hA.mod ((Mod.refl (fun _ => False) _).alloc (.cells #[.int .i64 0, .int .i64 10, .int .i64 9] 41)) (fun k h => h.elim))
  replace hX' := Lib.hid hX'
  clear hX hE hE1 hA
  go_wp2_with (refine wpList_bsd rfl (rsl_er _) rfl (by kernel_rfl) ?_)
  refine hc3.out.mono ?_
  rintro e w3 ⟨rfl, rfl⟩
  generalize w2.alloc (.cells #[.int .i64 0, .int .i64 10, .int .i64 9] 41) = w3 at hA3
  clear hc3
  by_cases c0 : erB E = true
  · have hX2 : X = (wys (prs l.length), 0) := by
      unfold erB at c0
      rw [hX'.out, if_pos (of_decide_eq_true c0)]
    subst hX2
    rw [c0]
    have kl := hA3.out.l.cell (i := 0) rfl
    have h5 := hA3.out.b.lt
    clear hX' c0
    go_wp2_with fail
    refine (places11_calls _ _).mono ?_
    rintro e w4 ⟨rfl, rfl⟩
    go_wp2_with fail
    obtain ⟨W0, hW0⟩ : ∃ W0, w3.alloc (.cells #[.int .i64 (l.length : Int)] 3) = W0 := ⟨_, rfl⟩
    have hz : W0.heap.size = w3.heap.size + 1 := by rw [← hW0]; simp
    have hA0 := hA3.out.mod ((Mod.refl (fun _ => False) w3).alloc (.cells #[.int .i64 (l.length : Int)] 3)) (fun k h => h.elim)
    have k1 : W0.cell? ⟨w3.heap.size, 0, none⟩ = some (.int .i64 (l.length : Int)) := by rw [← hW0]; exact (cellN w3 _ _).1
    rw [hW0] at hA0 ⊢
    clear hW0 hA3 kl
    generalize w3.heap.size = bI at *
    refine (wpIn_wide (n := nn)).1 ?_
    refine wp_rangeIter (gf := 75) (lb := #[.pointer (some ⟨bI, 0, none⟩)]) rfl (enters_of Try.func75 (by kernel_rfl) rfl)
      (encs := fun x : Int × Int => #[.int .i64 x.1, .int .i64 x.2]) (fun _ => rfl) (S := fun _ => False) (Dt := fun k => k < w.heap.size ∨ k = bI) (xs := prs l.length)
      (fun o o' => places11_iter l.length w _ bI ((hA0.low.alloc hA0.low.size _).alloc (by have := hA0.low.size; simp; omega) _) (cellA _ (cellA _ k1)))
      ⟨fun h => h, fun h => h⟩ (by omega)
      (fun pre W => ∃ q k d, AlS w V p p' c c' l.length t.length req (W0.heap.size + 2) (wys pre) q k d W)
      (fun _ _ _ => False)
      ?hI ?hIx ?h0 ?hround ?hdone ?hstop
    case h0 => exact ⟨none, 0, 0, hA0.v, hA0.l, hA0.t, hA0.r, hA0.b, by rw [hw0.out]; exact World.ownsRow_nil _ _ _ _, hA0.low⟩
    case hI => exact fun pre A B ⟨q, k, d, h⟩ hm => ⟨q, k, d, h.mod hm (fun k hk => by rcases hk with h | h; exact h.elim; omega)⟩
    case hIx => exact fun c pre A B h hm => h
    case hstop =>
      rintro c0 pre x0 rest W hx h
      exact h.elim
    case hround =>
      rintro pre ⟨x1, x2⟩ rest W hx hSW hlt ⟨q, k, d, hP⟩
      have hpl : pre.length + 1 ≤ 306 := by rw [hx] at hple; simp at hple; omega
      clear hSW hx
      gi_wp2
      refine ⟨Mod.refl _ _, fun W2 hm => ?_⟩
      have hsz := hm.size
      replace hP := hP.mod hm (fun k s => by omega)
      have hlv1 := Lib.hid (hlv.out _ hP.v)
      have k1 := hP.l.cell (i := 0) rfl
      have k2 := hP.t.cell (i := 0) rfl
      have k3 := hP.r.cell (i := 0) rfl
      have hr1 := Lib.hid (hr.out _ hP.low x1 x2)
      replace hP := Lib.hid hP
      clear hm
      gi_wp2_with (refine wpListIn_load_v (fun _ => trivial) rfl rfl 47 _ rfl ⟨w.heap.size, 0, none⟩ rfl _ hlv1.out ?_)
      refine callR hr1.out ?_
      rintro e W3 ⟨rfl, hb3⟩
      have hP3 := hP.out.mod ((Mod.refl (fun _ => False) _).after hb3) (fun k h => h.elim)
      have hM3 : Mod (fun k => ¬ False ∧ ¬ (k < w.heap.size ∨ k = bI) ∧ k ≠ W0.heap.size ∧ k ≠ W0.heap.size + 1) W2 W3 := (Mod.refl _ _).after hb3
      have hz3 := hb3.size
      clear hr1 hlv1 k1 k2 k3 hP hb3
      obtain ⟨r1, r2, hri⟩ : ∃ r1 r2, ri x1 x2 = (r1, r2) := ⟨_, _, rfl⟩
      have hsn := hws.out pre (x1, x2)
      have hln := hwl.out pre
      dsimp only at hsn
      rw [hri] at hsn ⊢
      dsimp only at hsn ⊢
      clear hri
      by_cases h0 : r2 = 0
      · subst h0
        rw [if_pos rfl] at hsn
        have hld := Lib.hid (run_cellW (hP3.b.cell (i := 0) rfl))
        have hOA := Lib.hid (own_mod hP3.o ((Mod.refl (fun _ => False) W3).alloc (.cells (tmV (x1, x2, r1)).toArray 120)) (fun _ _ h => h))
        have hsA : Hid (W0.heap.size + 2 ≤ (W3.alloc (.cells (tmV (x1, x2, r1)).toArray 120)).heap.size) := Lib.hid (by simp; omega)
        have hbw := Lib.hid (run_bwy x1 x2 r1)
        have hPA := Lib.hid hP3
        have hbl := hP3.b.lt
        replace hM3 := Lib.hid hM3
        replace hsn := Lib.hid hsn
        clear hP3
        gi_wp2_with (first | (refine wpListIn_load_v (fun _ => trivial) rfl rfl 149 _ rfl ⟨w.heap.size + 4, 0, none⟩ rfl _ hld.out ?_) |
          (refine wpListIn_build3C (fun _ => trivial) rfl rfl 120 _ _ _ rfl (.int .i64 x1) (.int .i64 x2) (.int .i64 r1) rfl rfl rfl _ (hbw.out _) ?_) |
          (refine wpListIn_bs1C (fun _ => trivial) rfl rfl 149 1 0 _ rfl (.agg (tmV (x1, x2, r1)).toArray) rfl _ _ (rsl_wy (x1, x2, r1) _) ?_) |
          (refine wpListIn_appC wy_el (fun _ => trivial) rfl rfl _ _ rfl (W0.heap.size + 2) hsA.out (.slice q k d) (wys pre).length _ rfl hOA.out (by omega) ⟨W3.heap.size, 0, none⟩ 1 1 (tmV (x1, x2, r1)) rfl rfl (by omega) (row_cells (Blk.new W3 _ _)) (tm_one _) ?_; intro v3 W4 h3 h4; obtain ⟨p2, m2, c2, rfl⟩ := own_isS h3; have c1 := (grown_blk (hPA.out.b.alloc (.cells (tmV (x1, x2, r1)).toArray 120)) hOA.out (by omega) h4).cell (i := 0) rfl; have f1 := (grown_blk (hPA.out.b.alloc (.cells (tmV (x1, x2, r1)).toArray 120)) hOA.out (by omega) h4).froz 0))
        have hM4 := ((hM3.out.alloc (.cells (tmV (x1, x2, r1)).toArray 120)).grown h4 (fun k hk _ => by have := (own_blk_lt hOA.out hk).1; exact ⟨fun h => h, by omega, by omega, by omega⟩)).setCell (p := ⟨w.heap.size + 4, 0, none⟩) (fun _ => (by refine ⟨fun h => h, ?_, ?_, ?_⟩ <;> omega : ¬ False ∧ ¬ (w.heap.size + 4 < w.heap.size ∨ w.heap.size + 4 = bI) ∧ w.heap.size + 4 ≠ W0.heap.size ∧ w.heap.size + 4 ≠ W0.heap.size + 1)) (.slice p2 m2 c2)
        have hg : ∀ {b : Nat} {C : Array Value} {ty : TypeId}, b < W0.heap.size + 2 → b ≠ w.heap.size + 4 → Blk W3 b C ty → Blk (W4.setCell ⟨w.heap.size + 4, 0, none⟩ (.slice p2 m2 c2)) b C ty := fun h1 h2 hB =>
          (grown_blk (hB.alloc _) hOA.out h1 h4).mod ((Mod.refl (· = w.heap.size + 4) W4).setCell (p := ⟨w.heap.size + 4, 0, none⟩) (fun _ => rfl) (.slice p2 m2 c2)) h2
        have hgO := own_mod h3 ((Mod.refl (· = w.heap.size + 4) W4).setCell (p := ⟨w.heap.size + 4, 0, none⟩) (fun _ => rfl) (.slice p2 m2 c2)) (fun g hg e => by have := (own_blk_lt h3 hg).1; omega)
        refine ⟨hM4, p2, m2, c2, hg (by omega) (by omega) hPA.out.v, hg (by omega) (by omega) hPA.out.l, hg (by omega) (by omega) hPA.out.t, hg (by omega) (by omega) hPA.out.r, (grown_blk (hPA.out.b.alloc _) hOA.out (by omega) h4).set 0 (.slice p2 m2 c2), ?_,
          (grown_low (B := w.heap.size) (hPA.out.low.alloc hPA.out.low.size (.cells (tmV (x1, x2, r1)).toArray 120)) (by omega) (Nat.le_refl _) hOA.out h4).setCell (p := ⟨w.heap.size + 4, 0, none⟩) (by simp) (.slice p2 m2 c2)⟩
        rw [hsn.out, List.map_append, List.flatten_append, List.length_append]
        simpa using hgO
      · have h0b : (r2 == 0) = false := beq_eq_false_iff_ne.2 h0
        rw [if_neg h0, List.append_nil] at hsn
        replace hM3 := Lib.hid hM3
        replace hP3 := Lib.hid hP3
        replace hsn := Lib.hid hsn
        gi_wp2_with fail
        exact ⟨hM3.out, q, k, d, by rw [hsn.out]; exact hP3.out⟩
    case hdone =>
      rintro W ⟨q, k, d, hP⟩ hD hlt
      have hO := hP.o
      have q1 := hP.b.cell (i := 0) rfl
      have f1 := hP.b.froz 0
      have hld := Lib.hid (run_cellW q1)
      have hR2 := Lib.hid (hP.b.set 0 (.slice q k d))
      have hwl2 := hwl.out (prs l.length)
      have hD2 := Lib.hid (setCell_heap (p := ⟨w.heap.size + 4, 0, none⟩) (v := .slice q k d) hD (show W0.heap.size ≠ w.heap.size + 4 by omega))
      have hB2 := Lib.hid (hP.low.setCell (p := ⟨w.heap.size + 4, 0, none⟩) (by simp) (.slice q k d))
      have hO2 := Lib.hid (own_mod hO (((Mod.refl (fun k => k < W0.heap.size + 2) W).setCell (p := ⟨w.heap.size + 4, 0, none⟩) (fun _ => by show w.heap.size + 4 < W0.heap.size + 2; omega) (.slice q k d)).putObj (r := W0.heap.size) (fun _ => by omega) (.deferred none)) (fun g hg e => by have := (own_blk_lt hO hg).1; omega))
      have hcap := own_cap hO
      generalize wys (prs l.length) = ws at *
      replace hP := Lib.hid hP
      clear hws hwl k1 hO hD
      go_wp2_with (refine wpList_load_v rfl 149 _ rfl ⟨w.heap.size + 4, 0, none⟩ rfl _ hld.out ?_)
      refine ⟨by simp, .inl ⟨_, _, rfl, run_takeDeferred (by rw [← hz]; exact hD2.out), ?_⟩⟩
      have hEl := own_els (R := ws.map tmV) (tmV_len _) (by rw [List.length_map]; exact hO2.out) (by rw [List.length_map]; omega)
      obtain ⟨h1, h2, h3, h4⟩ := hEl
      rw [List.length_map] at h2
      subst h2
      have hk : ((W.setCell ⟨w.heap.size + 4, 0, none⟩ (.slice q ws.length d)).putObj W0.heap.size (.deferred none)).cell? ⟨w.heap.size + 4, 0, none⟩ = some (.slice q ws.length d) := (putObj_cell (by show w.heap.size + 4 ≠ _; omega)).trans (hR2.out.cell (i := 0) rfl)
      rw [hz] at h1 hk
      refine ⟨_, res_ctC Try.results61 rfl (run_cellW hk), ⟨⟨q, d, rfl, h3, h1⟩, ?_⟩⟩
      rw [← hz]
      exact below_putObj hB2.out (by omega) _
  · have c0' : erB E = false := by simpa using c0
    have hX2 : X = ([], E) := by
      unfold erB at c0
      rw [hX'.out, if_neg (by simpa using c0)]
    subst hX2
    rw [c0']
    have hHB := hA3.out.b.set 0 (.slice none 0 0)
    have q1 := hA3.out.b.cell (i := 0) rfl
    have f1 := hA3.out.b.froz 0
    clear c0 c0' hX'
    go_wp2_with fail
    exact ⟨_, res_ctC Try.results61 rfl (run_cellW (hHB.cell (i := 0) rfl)), ⟨⟨none, 0, rfl, Nat.le_refl _, els_nilC _ _⟩, hA3.out.low.setCell (p := ⟨w.heap.size + 4, 0, none⟩) (by simp) _⟩⟩
end Go.Proofs.Ytpbmeeogledmdae
namespace Go.Proofs.Ytpbmeeogledmdae
open Go.RowKit

set_option maxRecDepth 100000 in
theorem best1_calls (u : Wy) (w : World) : Calls Try.prog 63 #[.agg (tmV u).toArray] w fun e w' => e = .returned (.int .i64 u.2.2) ∧ Below w.heap.size w w' := by
  have h0 := Lib.hid (show Blk (w.alloc (.cells (tmV u).toArray 120)) w.heap.size (tmV u).toArray 120 ∧ Below w.heap.size w (w.alloc (.cells (tmV u).toArray 120)) from ⟨Blk.new _ _ _, new_below _ _⟩)
  go_enter Try.func63, Try.ntmps63
  go_upto_region 1 with fail
  refine wp_world' (fun wx => Blk wx w.heap.size (tmV u).toArray 120 ∧ Below w.heap.size w wx) h0.out ?_
  rintro w1 ⟨hB, hb⟩
  have k2 := hB.cell (i := 2) (v := .int .i64 u.2.2) rfl
  clear hB h0
  go_wp2
  go_ret
  exact ⟨rfl, hb⟩
theorem ld_way {w : World} {a : Addr} {L : List Wy} {k : Nat} (h : Els w (some a) 3 (L.map tmV)) (hk : k < L.length) : (loadVar 120 (a.add (k * 3))).run Try.prog w = .ok (.agg (tmV L[k]).toArray) w := by
  have := h.load (P := Try.prog) (a := a) rfl (k := k) (by simpa using hk) (ty := 120) Try.underlying120 rfl (by kernel_rfl)
  rw [List.getElem_map] at this
  exact this
theorem run_ixWy {ρ : Operand → Value} {o : Oper} {w : World} {x y : Operand} {a : Addr} {n c k : Nat} (ho : o.op = .indexAddr 149 x y) (hx : ρ x = .slice (some a) n c) (hy : ρ y = .int .i64 k) (hk : k < n) : (execOp ρ o).run Try.prog w = .ok (.value (.pointer (some (a.add (k * 3))))) w := by
  have h0 : (0 : Int) ≤ (k : Int) := by omega
  have h1 : (k : Int) < (n : Int) := by omega
  have h2 : ((k : Int)).toNat = k := by omega
  unfold execOp
  simp only [ho, hx, hy]
  go_simp
theorem run_slWy {ρ : Operand → Value} {o : Oper} {w : World} {x y : Operand} {p : Option Addr} {n c i : Nat} (ho : o.op = .slice 149 x (some y) none none) (hx : ρ x = .slice p n c) (hy : ρ y = .int .i64 i) (h1 : i ≤ n) :
    (execOp ρ o).run Try.prog w = .ok (.value (.slice (if c = i then p else p.map (·.add (i * 3))) (n - i) (c - i))) w := by
  have h := run_slice_l (P := Try.prog) w 149 p n c (by kernel_rfl) .i64 (i : Int) (by omega) (by omega)
  have hs : (sizeOf (Try.prog.elem 149)).run Try.prog w = .ok 3 w := by kernel_rfl
  rw [← run_sliceAt_slice (P := Try.prog) w 149 (.slice p n c) _ _ _ (by kernel_rfl), hs] at h
  simp only [Result.andThen_ok, Int.toNat_natCast, sliced] at h
  unfold execOp
  simp only [ho, hx, hy, Option.map_some, Option.map_none, Sem.run_bind, h, Sem.run_pure, Result.andThen_ok]
theorem run_slWyP {ρ : Operand → Value} {o : Oper} {w : World} {x y : Operand} {p p' : Option Addr} {n c m : Nat} (hp : (if c = 1 then p else p.map (·.add (1 * 3))) = p') (hn : n = m + 1) (ho : o.op = .slice 149 x (some y) none none) (hx : ρ x = .slice p n c) (hy : ρ y = .int .i64 1) :
    (execOp ρ o).run Try.prog w = .ok (.value (.slice p' m (c - 1))) w := by
  have h := run_slWy (w := w) (i := 1) ho hx hy (by omega)
  rw [hp, show n - 1 = m by omega] at h
  exact h
set_option maxHeartbeats 2000000 in
set_option maxRecDepth 100000 in
theorem least_calls (a : Addr) (d : Nat) (b : Wy) (r : List Wy) (w : World) (hE : Els w (some a) 3 ((b :: r).map tmV)) (hd : r.length + 1 ≤ d) (hr : r.length ≤ 1000) :
    Calls Try.prog 62 #[.slice (some a) (r.length + 1) d, .func (.func 63) #[] #[]] w fun e w' => e = .returned (.agg (tmV (lstW b r)).toArray) ∧ Below w.heap.size w w' := by
  obtain ⟨p', hp'⟩ : ∃ p' : Option Addr, (if d = 1 then some a else (some a).map (·.add (1 * 3))) = p' := ⟨_, rfl⟩
  have hl0 := Lib.hid (fun wx (h : Below w.heap.size w wx) => ld_way (hE.below h) (k := 0) (by simp))
  have hlk := Lib.hid (fun wx (h : Below w.heap.size w wx) (k : Nat) (hk : k < r.length) => (by
    have h1 := ld_way (hE.below h) (k := k + 1) (by simp; omega)
    rw [if_neg (by omega)] at hp'
    subst hp'
    refine ⟨_, rfl, ?_⟩
    have e : (a.add (1 * 3)).add (k * 3) = a.add ((k + 1) * 3) := by rw [addr_add_add]; congr 1; omega
    rw [e]
    exact h1 : ∃ a', p' = some a' ∧ (loadVar 120 (a'.add (k * 3))).run Try.prog wx = .ok (.agg (tmV r[k]).toArray) wx))
  have hcl := Lib.hid (fun wx u => best1_calls u wx)
  have hst := Lib.hid (fun k (hk : k < r.length) => (by rw [List.take_succ_eq_append_getElem hk, lstW_snoc] : lstW b (r.take (k + 1)) = if r[k].2.2 < (lstW b (r.take k)).2.2 then r[k] else lstW b (r.take k)))
  clear hE
  replace hp' := Lib.hid hp'
  obtain ⟨BR, hBR⟩ : ∃ BR, lstW b r = BR := ⟨_, rfl⟩
  rw [hBR]
  replace hBR := Lib.hid hBR
  go_enter Try.func62, Try.ntmps62
  go_upto_region 1 with fail
  refine wp_world' (fun wx => Blk wx w.heap.size (tmV (0, 0, 0)).toArray 120 ∧ wx.heap.size = w.heap.size + 1 ∧ Below w.heap.size w wx) ⟨Blk.new _ _ _, by simp, new_below _ _⟩ ?_
  rintro w1 ⟨hR, hz1, hb1⟩
  have hl1 := hl0.out w1 hb1
  have hB1 := Lib.hid (Blk.new w1 (tmV b).toArray 120)
  have hR1 := Lib.hid (hR.alloc (.cells (tmV b).toArray 120))
  have hb2 := Lib.hid (hb1.alloc hb1.size (.cells (tmV b).toArray 120))
  replace hz1 := Lib.hid hz1
  replace hl1 := Lib.hid hl1
  clear hR hb1
  go_upto_region 2 with (first | (refine wpList_v rfl (.pointer (some (a.add (0 * 3)))) (run_ixWy (k := 0) rfl rfl rfl (by omega)) ?_) | (refine wpList_load_v rfl 120 _ rfl (a.add (0 * 3)) rfl _ hl1.out ?_) |
    (refine wpList_store_new rfl 120 _ _ rfl rfl rfl _ (tmV b).toArray _ rfl rfl (tm_one _) (by kernel_rfl) ?_))
  rw [hz1.out]
  refine wp_world' (fun wx => Blk wx w.heap.size (tmV (0, 0, 0)).toArray 120 ∧ Blk wx (w.heap.size + 1) (tmV b).toArray 120 ∧ Below w.heap.size w wx) ⟨hR1.out, by rw [← hz1.out]; exact hB1.out, hb2.out⟩ ?_
  clear hR1 hB1 hb2 hl1 hz1
  rintro w2 ⟨hR, hB, hb⟩
  replace hR := Lib.hid hR
  replace hB := Lib.hid hB
  replace hb := Lib.hid hb
  have hdd : Hid (d - 1 = d - 1) := Lib.hid rfl
  go_wp2_with (refine wpList_v rfl (.slice p' r.length (d - 1)) (run_slWyP hp'.out rfl rfl rfl rfl) ?_)
  go_loopw [14] (fun s14 wx => ∃ k : Nat, k ≤ r.length ∧ s14 = .int .i64 k ∧ Blk wx w.heap.size (tmV (0, 0, 0)).toArray 120 ∧ Blk wx (w.heap.size + 1) (tmV (lstW b (r.take k))).toArray 120 ∧ Below w.heap.size w wx) (fun s14 _ => r.length - (intOf s14).toNat)
  case atStart => exact ⟨0, Nat.zero_le _, rfl, hR.out, hB.out, hb.out⟩
  case round =>
    clear hR hB hb
    obtain ⟨k, hk, rfl, hR, hB, hb⟩ := hrel
    by_cases hlt : k < r.length
    · have hltI : (k : Int) < (r.length : Int) := by omega
      have hk0 : (0 : Int) ≤ (k : Int) := by omega
      have s1 : IntKind.i64.wrap ((k : Int) + 1) = (k : Int) + 1 := IntWalk.i64_in _ (by omega)
      obtain ⟨a', ha', hl⟩ := hlk.out wr hb k hlt
      have hstk := hst.out k hlt
      obtain ⟨u, hu⟩ : ∃ u, r[k] = u := ⟨_, rfl⟩
      rw [hu] at hl hstk
      obtain ⟨B, hBB⟩ : ∃ B, lstW b (r.take k) = B := ⟨_, rfl⟩
      rw [hBB] at hB hstk
      clear hu hBB
      have hX1 := Blk.new wr (tmV u).toArray 120
      have hR1 := hR.alloc (.cells (tmV u).toArray 120)
      have hB1 := hB.alloc (.cells (tmV u).toArray 120)
      have hb1 := hb.alloc hb.size (.cells (tmV u).toArray 120)
      have hpre := Lib.hid (show Blk (wr.alloc (.cells (tmV u).toArray 120)) wr.heap.size (tmV u).toArray 120 ∧ Blk (wr.alloc (.cells (tmV u).toArray 120)) w.heap.size (tmV (0, 0, 0)).toArray 120 ∧
        Blk (wr.alloc (.cells (tmV u).toArray 120)) (w.heap.size + 1) (tmV B).toArray 120 ∧ Below w.heap.size w (wr.alloc (.cells (tmV u).toArray 120)) from ⟨hX1, hR1, hB1, hb1⟩)
      have hsz := hB.lt
      replace hl := Lib.hid hl
      replace hstk := Lib.hid hstk
      clear hX1 hR1 hB1 hb1 hR hB hb
      subst ha'
      go_upto_region 5 with (first | (refine wpList_v rfl (.pointer (some (a'.add (k * 3)))) (run_ixWy (k := k) rfl rfl rfl (by omega)) ?_) | (refine wpList_load_v rfl 120 _ rfl (a'.add (k * 3)) rfl _ hl.out ?_) |
        (refine wpList_store_new rfl 120 _ _ rfl rfl rfl _ (tmV u).toArray _ rfl rfl (tm_one _) (by kernel_rfl) ?_))
      generalize hg : wr.heap.size = g at *
      refine wp_world' (fun wx => Blk wx g (tmV u).toArray 120 ∧ Blk wx w.heap.size (tmV (0, 0, 0)).toArray 120 ∧ Blk wx (w.heap.size + 1) (tmV B).toArray 120 ∧ Below w.heap.size w wx) hpre.out ?_
      clear hpre hg hl
      rintro w3 ⟨hX, hR, hB, hb⟩
      have hlX := Lib.hid (fun z : Later (fun _ => False) w3 => run_load_row' (P := Try.prog) z.val g 120 _ 120 _ (hX.mod z.mod (fun h => h)) Try.underlying120 rfl (by kernel_rfl))
      have hlB := Lib.hid (fun z : Later (fun _ => False) w3 => run_load_row' (P := Try.prog) z.val (w.heap.size + 1) 120 _ 120 _ (hB.mod z.mod (fun h => h)) Try.underlying120 rfl (by kernel_rfl))
      replace hX := Lib.hid hX
      replace hR := Lib.hid hR
      replace hB := Lib.hid hB
      replace hb := Lib.hid hb
      refine wp_region_later (w0 := w3) (S := fun _ => False) (Mod.refl _ _) (by kernel_rfl) (by kernel_rfl) ?_
      go_big_quiet_step (fail)
      refine wpQuiet_v rfl (.agg (tmV u).toArray) (by rintro _ ⟨z, rfl⟩; exact run_load_v rfl rfl (hlX.out z)) ?_
      simp only [Act.put, List.setIfInBounds_toArray, List.set_cons_succ, List.set_cons_zero]
      go_big_quiet_step (((go_at_call 63; with_reducible exact Calls.later (hcl.out _ u))))
      go_big_quiet_step (fail)
      refine wpQuiet_v rfl (.agg (tmV B).toArray) (by rintro _ ⟨z, rfl⟩; exact run_load_v rfl rfl (hlB.out z)) ?_
      simp only [Act.put, List.setIfInBounds_toArray, List.set_cons_succ, List.set_cons_zero]
      go_big_quiet_step (((go_at_call 63; with_reducible exact Calls.later (hcl.out _ B))))
      go_big_quiet_step (fail)
      refine wpQuiet_nil ?_
      rintro _ ⟨z, rfl⟩
      have hX3 := hX.out.mod z.mod (fun h => h)
      have hR3 := hR.out.mod z.mod (fun h => h)
      have hB3 := hB.out.mod z.mod (fun h => h)
      have hb3 := hb.out.trans (z.mod.below hb.out.size (fun _ h => h.elim))
      clear hX hR hB hb hlX hlB
      by_cases hlt2 : u.2.2 < B.2.2
      · rw [if_pos hlt2] at hstk
        have hd1 : decide (u.2.2 < B.2.2) = true := decide_eq_true hlt2
        have hlX2 := Lib.hid (run_load_row' (P := Try.prog) z.val g 120 _ 120 _ hX3 Try.underlying120 rfl (by kernel_rfl))
        have HB := Lib.hid hB3
        have HR := Lib.hid hR3
        have Hb := Lib.hid hb3
        generalize z.val = w4 at *
        clear hX3 hR3 hB3 hb3
        go_wp2_with (first | (refine wpList_load_v rfl 120 _ rfl ⟨g, 0, none⟩ rfl _ hlX2.out ?_) |
          (refine wpList_store_row rfl 120 _ _ rfl rfl (w.heap.size + 1) rfl _ (tmV u).toArray _ HB.out rfl rfl (tm_one _) (by kernel_rfl) ?_; intro w5 hB5 hm5))
        have hR5 := HR.out.mod hm5 (by omega)
        have hb5 := Hb.out.trans (hm5.below Hb.out.size (fun k (hk : k = w.heap.size + 1) => by omega))
        replace hR5 := Lib.hid hR5
        replace hb5 := Lib.hid hb5
        replace hB5 := Lib.hid hB5
        go_roundw
        case rel => exact ⟨k + 1, by omega, by simp, hR5.out, by rw [hstk.out]; exact hB5.out, hb5.out⟩
        case measure => simp [intOf]; omega
      · rw [if_neg hlt2] at hstk
        have hd1 : decide (u.2.2 < B.2.2) = false := decide_eq_false hlt2
        have HB := Lib.hid hB3
        have HR := Lib.hid hR3
        have Hb := Lib.hid hb3
        clear hX3 hR3 hB3 hb3
        go_wp2_with fail
        go_roundw
        case rel => exact ⟨k + 1, by omega, by simp, HR.out, by rw [hstk.out]; exact HB.out, Hb.out⟩
        case measure => simp [intOf]; omega
    · obtain rfl : k = r.length := by omega
      rw [List.take_length] at hB
      have hlB := Lib.hid (run_load_row' (P := Try.prog) wr (w.heap.size + 1) 120 _ 120 _ hB Try.underlying120 rfl (by kernel_rfl))
      have hlB' := hlB.out
      rw [hBR.out] at hlB'
      replace hlB := Lib.hid hlB'
      clear hlB'
      have HR := Lib.hid hR
      have Hb := Lib.hid hb
      clear hR hB hb hst
      go_wp2_with (first | (refine wpList_load_v rfl 120 _ rfl ⟨w.heap.size + 1, 0, none⟩ rfl _ hlB.out ?_) |
          (refine wpList_store_row rfl 120 _ _ rfl rfl w.heap.size rfl _ (tmV BR).toArray _ HR.out rfl rfl (tm_one _) (by kernel_rfl) ?_; intro w5 hB5 hm5))
      have hb5 := Hb.out.trans (hm5.below Hb.out.size (fun k (hk : k = w.heap.size) => by omega))
      exact bodyPost_ret (res_cell1 Try.results62 rfl (run_load_row' (P := Try.prog) w5 _ 120 _ 120 _ hB5 Try.underlying120 rfl (by kernel_rfl))) rfl ⟨rfl, hb5⟩
set_option maxHeartbeats 2000000 in
set_option maxRecDepth 100000 in
theorem best_calls (x y cp st en req : Int) (p p' : Option Addr) (c c' : Nat) (l : List (Int × Int)) (t : List Rq) (w : World) (hL : Els w p 2 (l.map stV)) (hc : l.length ≤ c) (hT : Els w p' 10 (t.map rqV)) :
    Calls Try.prog 45 #[.agg #[.int .i64 x, .int .i64 y, .int .i64 cp, .int .i64 st, .int .i64 en], .slice p l.length c, .slice p' t.length c', .int .i64 req] w fun e w' =>
      e = .returned (.tuple #[.agg (tmV (bestP x y cp st en l t req).1).toArray, .int .i64 (bestP x y cp st en l t req).2]) ∧ Below w.heap.size w w' := by
  have ha := fun wx (h : Below w.heap.size w wx) => all_calls x y cp st en req p p' c c' l t wx (hL.below h) hc (hT.below h)
  have hX : bestP x y cp st en l t req = if (allP x y cp st en l t req).2 ≠ 0 then ((0, 0, 0), (allP x y cp st en l t req).2) else match (allP x y cp st en l t req).1 with | [] => ((0, 0, 0), 12) | b :: r => (lstW b r, 0) := rfl
  have hlen : (allP x y cp st en l t req).1.length ≤ 306 := by
    unfold allP
    split
    · exact Nat.le_trans (wysP_len x y cp st en l t req _) (prs_leC _)
    · simp
  generalize bestP x y cp st en l t req = X at hX ⊢
  obtain ⟨ws, E, hA⟩ : ∃ ws E, allP x y cp st en l t req = (ws, E) := ⟨_, _, rfl⟩
  rw [hA] at ha hX hlen
  unfold AlPost at ha
  dsimp only at ha hX hlen
  obtain ⟨V, hV⟩ : ∃ V : Array Value, #[.int .i64 x, .int .i64 y, .int .i64 cp, .int .i64 st, .int .i64 en] = V := ⟨_, rfl⟩
  have hsV : V.size = 5 := by rw [← hV]; rfl
  have hlv := Lib.hid (fun wx (h : Blk wx w.heap.size V 47) => run_load_row' (P := Try.prog) wx w.heap.size 47 V 47 _ h Try.underlying47 rfl (by rw [hsV]; kernel_rfl))
  rw [hV] at ha ⊢
  replace ha := Lib.hid ha
  replace hX := Lib.hid hX
  clear hV hsV hA hL hT
  go_enter Try.func45, Try.ntmps45
  go_upto_region 1 with fail
  refine wp_world' (fun wx => Blk wx w.heap.size V 47 ∧ Blk wx (w.heap.size + 1) (tmV (0, 0, 0)).toArray 120 ∧ Below w.heap.size w wx) ⟨(Blk.new _ _ _).alloc _, blk_newAtC (by simp) _ _, (new_below _ _).alloc (by simp) _⟩ ?_
  rintro w1 ⟨hB, hR, hb⟩
  have hl1 := Lib.hid (hlv.out _ hB)
  have ha1 := Lib.hid (ha.out _ hb)
  replace hR := Lib.hid hR
  clear hB
  go_wp2_with (refine wpList_load_v rfl 47 _ rfl ⟨w.heap.size, 0, none⟩ rfl _ hl1.out ?_)
  refine ha1.out.mono ?_
  rintro e w2 ⟨⟨q, d, rfl, hd, hE⟩, hb2⟩
  have hR2 := hR.out.mod ((Mod.refl (fun _ => False) _).after hb2) (fun h => h)
  have hb3 := hb.trans (hb2.mono hb.size)
  have hlt := hR2.lt
  have hlR := Lib.hid (run_load_row' (P := Try.prog) w2 (w.heap.size + 1) 120 _ 120 _ hR2 Try.underlying120 rfl (by kernel_rfl))
  have HR := Lib.hid hR2
  have HE := Lib.hid hE
  have Hb := Lib.hid hb3
  clear hR hl1 ha1 hlv ha hb hb2 hR2 hE hb3
  by_cases h0 : E = 0
  · subst h0
    have hX2 := hX.out
    rw [if_neg (by simp)] at hX2
    cases ws with
    | nil =>
      dsimp only [List.length_nil] at hX2 ⊢
      subst hX2
      clear hX
      go_wp2_with (first | (refine wpList_load_v rfl 120 _ rfl ⟨w.heap.size + 1, 0, none⟩ rfl _ hlR.out ?_) |
        (refine wpList_store_row rfl 120 _ _ rfl rfl (w.heap.size + 1) rfl _ (tmV (0, 0, 0)).toArray _ HR.out rfl rfl (tm_one _) (by kernel_rfl) ?_; intro w5 hB5 hm5))
      have hb5 := Hb.out.trans (hm5.below Hb.out.size (fun k (hk : k = w.heap.size + 1) => by omega))
      exact bodyPost_ret (res_ctC Try.results45 rfl (run_load_row' (P := Try.prog) w5 _ 120 _ 120 _ hB5 Try.underlying120 rfl (by kernel_rfl))) rfl ⟨rfl, hb5⟩
    | cons b r =>
      dsimp only [List.length_cons] at hX2 hlen hd ⊢
      subst hX2
      obtain ⟨a, rfl⟩ := HE.out.some_of (k := 0) (by simp)
      have hls := Lib.hid (least_calls a d b r w2 HE.out hd (by omega))
      have hrl : ((r.length : Int) + 1 == 0) = false := beq_eq_false_iff_ne.2 (by omega)
      have hrl2 : ¬ ((r.length : Int) + 1 = 0) := by omega
      clear hX HE hd
      go_wp2_with fail
      refine hls.out.mono ?_
      rintro e w3 ⟨rfl, hb4⟩
      have hR3 := Lib.hid (HR.out.mod ((Mod.refl (fun _ => False) _).after hb4) (fun h => h))
      have hb5 := Lib.hid (Hb.out.trans (hb4.mono Hb.out.size))
      clear HR Hb hb4 hls
      go_wp2_with (first | (refine wpList_store_row rfl 120 _ _ rfl rfl (w.heap.size + 1) rfl _ (tmV (lstW b r)).toArray _ hR3.out rfl rfl (tm_one _) (by kernel_rfl) ?_; intro w5 hB5 hm5))
      have hb6 := hb5.out.trans (hm5.below hb5.out.size (fun k (hk : k = w.heap.size + 1) => by omega))
      exact bodyPost_ret (res_ctC Try.results45 rfl (run_load_row' (P := Try.prog) w5 _ 120 _ 120 _ hB5 Try.underlying120 rfl (by kernel_rfl))) rfl ⟨rfl, hb6⟩
  · have hX2 := hX.out
    rw [if_pos h0] at hX2
    subst hX2
    have d1 : (E == 0) = false := beq_eq_false_iff_ne.2 h0
    clear hX HE
    go_wp2_with (first | (refine wpList_load_v rfl 120 _ rfl ⟨w.heap.size + 1, 0, none⟩ rfl _ hlR.out ?_) |
      (refine wpList_store_row rfl 120 _ _ rfl rfl (w.heap.size + 1) rfl _ (tmV (0, 0, 0)).toArray _ HR.out rfl rfl (tm_one _) (by kernel_rfl) ?_; intro w5 hB5 hm5))
    have hb5 := Hb.out.trans (hm5.below Hb.out.size (fun k (hk : k = w.heap.size + 1) => by omega))
    exact bodyPost_ret (res_ctC Try.results45 rfl (run_load_row' (P := Try.prog) w5 _ 120 _ 120 _ hB5 Try.underlying120 rfl (by kernel_rfl))) rfl ⟨rfl, hb5⟩
end Go.Proofs.Ytpbmeeogledmdae
namespace Go.Proofs.Ytpbmeeogledmdae
open Go.RowKit

theorem best_zero {x y cp st en req : Int} {l : List (Int × Int)} {t : List Rq} (h : (bestP x y cp st en l t req).2 ≠ 0) : (bestP x y cp st en l t req).1 = (0, 0, 0) := by
  unfold bestP at h ⊢
  by_cases h1 : (allP x y cp st en l t req).2 ≠ 0
  · rw [if_pos h1]
  · rw [if_neg h1] at h ⊢
    cases hw : (allP x y cp st en l t req).1 with
    | nil => rfl
    | cons b r => rw [hw] at h; exact absurd rfl h
theorem eql_way (w : World) (a b c : Int) : (binOp .eql 120 (.agg #[.int .i64 a, .int .i64 b, .int .i64 c]) (.agg #[.int .i64 0, .int .i64 0, .int .i64 0])).run Try.prog w = .ok (.bool (a == 0 && b == 0 && c == 0)) w := by
  go_simp
  repeat' split
  all_goals simp_all
def CpPost (w : World) (R : List (Int × Int) × Int × Int) (e : Ending) (w' : World) : Prop :=
  (∃ q d, e = .returned (.tuple #[.slice q R.1.length d, .int .i64 R.2.1, .int .i64 R.2.2]) ∧ (R.1.length ≤ d ∧ d ≤ 9223372036854775807) ∧ Els w' q 2 (R.1.map stV) ∧ (∀ a, q = some a → w.heap.size ≤ a.block)) ∧ Below w.heap.size w w'
theorem run_bwz (w : World) : (Instr.build 120 #[]).run Try.prog w = .ok (.agg (tmV (0, 0, 0)).toArray) w := by kernel_rfl
set_option maxHeartbeats 2000000 in
set_option maxRecDepth 100000 in
theorem cput_calls (x y cp st en req : Int) (p p' : Option Addr) (c c' : Nat) (l : List (Int × Int)) (t : List Rq) (w : World) (hL : Els w p 2 (l.map stV)) (hc : l.length ≤ c) (hT : Els w p' 10 (t.map rqV)) :
    Calls Try.prog 36 #[.agg #[.int .i64 x, .int .i64 y, .int .i64 cp, .int .i64 st, .int .i64 en], .slice p l.length c, .slice p' t.length c', .int .i64 req] w (CpPost w (cputP x y cp st en l t req)) := by
  have ha := fun wx (h : Below w.heap.size w wx) => best_calls x y cp st en req p p' c c' l t wx (hL.below h) hc (hT.below h)
  have hwi := fun wx (h : Below w.heap.size w wx) i j => withN_calls p c l req i j wx (hL.below h) hc
  have hX : cputP x y cp st en l t req = if (bestP x y cp st en l t req).2 ≠ 0 then ([], 0, (bestP x y cp st en l t req).2) else
    ((withP l req (bestP x y cp st en l t req).1.1 (bestP x y cp st en l t req).1.2.1).getD [], (bestP x y cp st en l t req).1.2.2, 0) := rfl
  have hz0 := fun h => best_zero (x := x) (y := y) (cp := cp) (st := st) (en := en) (req := req) (l := l) (t := t) h
  generalize cputP x y cp st en l t req = X at hX ⊢
  obtain ⟨I, J, R, E, hA⟩ : ∃ I J R E, bestP x y cp st en l t req = ((I, J, R), E) := ⟨_, _, _, _, rfl⟩
  rw [hA] at ha hX hz0
  dsimp only at ha hX hz0
  obtain ⟨V, hV⟩ : ∃ V : Array Value, #[.int .i64 x, .int .i64 y, .int .i64 cp, .int .i64 st, .int .i64 en] = V := ⟨_, rfl⟩
  have hsV : V.size = 5 := by rw [← hV]; rfl
  have hlv := Lib.hid (fun wx (h : Blk wx w.heap.size V 47) => run_load_row' (P := Try.prog) wx w.heap.size 47 V 47 _ h Try.underlying47 rfl (by rw [hsV]; kernel_rfl))
  rw [hV] at ha ⊢
  replace ha := Lib.hid ha
  replace hX := Lib.hid hX
  replace hwi := Lib.hid hwi
  clear hV hsV hA hL hT
  go_enter Try.func36, Try.ntmps36
  go_upto_region 1 with fail
  refine wp_world' (fun wx => Blk wx w.heap.size V 47 ∧ Below w.heap.size w wx) ⟨Blk.new _ _ _, new_below _ _⟩ ?_
  rintro w1 ⟨hB, hb⟩
  have hl1 := Lib.hid (hlv.out _ hB)
  have ha1 := Lib.hid (ha.out _ hb)
  clear hB
  go_wp2_with (refine wpList_load_v rfl 47 _ rfl ⟨w.heap.size, 0, none⟩ rfl _ hl1.out ?_)
  refine ha1.out.mono ?_
  rintro e w2 ⟨rfl, hb2⟩
  have hb3 := hb.trans (hb2.mono hb.size)
  have hpre := Lib.hid (show Blk ((w2.alloc (.cells (tmV (I, J, R)).toArray 120)).alloc (.cells (tmV (0, 0, 0)).toArray 120)) w2.heap.size (tmV (I, J, R)).toArray 120 ∧
    Blk ((w2.alloc (.cells (tmV (I, J, R)).toArray 120)).alloc (.cells (tmV (0, 0, 0)).toArray 120)) (w2.heap.size + 1) (tmV (0, 0, 0)).toArray 120 ∧
    Below w.heap.size w ((w2.alloc (.cells (tmV (I, J, R)).toArray 120)).alloc (.cells (tmV (0, 0, 0)).toArray 120)) from
    ⟨(Blk.new _ _ _).alloc _, blk_newAtC (by simp) _ _, (hb3.alloc hb3.size _).alloc (by have := hb3.size; simp; omega) _⟩)
  clear hl1 ha1 hlv ha hb hb2 hb3
  go_upto_region 2 with (first | (refine wpList_store_new rfl 120 _ _ rfl rfl rfl _ (tmV (I, J, R)).toArray _ rfl rfl (tm_one _) (by kernel_rfl) ?_))
  obtain ⟨w3, hw3⟩ : ∃ w3, w2.alloc (.cells (tmV (I, J, R)).toArray 120) = w3 := ⟨_, rfl⟩
  have hz3 : Hid (w3.heap.size = w2.heap.size + 1) := Lib.hid (by rw [← hw3]; simp)
  rw [hw3] at hpre ⊢
  rw [← hz3.out] at hpre
  clear hw3 hz3
  go_upto_region 3 with (first | (refine wpList_build_v rfl 120 rfl _ (run_bwz _) ?_) | (refine wpList_store_new rfl 120 _ _ rfl rfl rfl _ (tmV (0, 0, 0)).toArray _ rfl rfl (tm_one _) (by kernel_rfl) ?_))
  refine wp_world' (fun wx => Blk wx w2.heap.size (tmV (I, J, R)).toArray 120 ∧ Blk wx w3.heap.size (tmV (0, 0, 0)).toArray 120 ∧ Below w.heap.size w wx) hpre.out ?_
  clear hpre
  generalize w2.heap.size = g at *
  generalize w3.heap.size = g' at *
  rintro w4 ⟨hG, hG', hb⟩
  have hlG := Lib.hid (run_load_row' (P := Try.prog) w4 g 120 _ 120 _ hG Try.underlying120 rfl (by kernel_rfl))
  have hlG' := Lib.hid (run_load_row' (P := Try.prog) w4 g' 120 _ 120 _ hG' Try.underlying120 rfl (by kernel_rfl))
  have heq := Lib.hid (eql_way w4 I J R)
  have k0 := hG.cell (i := 0) (v := .int .i64 I) rfl
  have k1 := hG.cell (i := 1) (v := .int .i64 J) rfl
  replace hG := Lib.hid hG
  replace hb := Lib.hid hb
  clear hG'
  by_cases h0 : E = 0
  · subst h0
    have hX2 := hX.out
    rw [if_neg (by simp)] at hX2
    subst hX2
    have hw5 := Lib.hid (hwi.out w4 hb.out I J)
    generalize (I == 0 && J == 0 && R == 0) = g0 at heq
    clear hX hz0 hwi
    have hw6 := Lib.hid (by have := hw5.out; unfold WiPostN at this; exact this)
    have hfin : ∀ (q : Option Addr) (d : Nat) (W : World), Below w4.heap.size w4 W → (∀ a, q = some a → w4.heap.size ≤ a.block) → (∀ a, q = some a → w.heap.size ≤ a.block) ∧ Below w.heap.size w W := fun q d W h1 h2 =>
      ⟨fun a ha => Nat.le_trans hb.out.size (h2 a ha), hb.out.trans (h1.mono hb.out.size)⟩
    replace hfin := Lib.hid hfin
    cases g0
    all_goals
      go_wp2_with (first | (refine wpList_load_v rfl 120 _ rfl ⟨g, 0, none⟩ rfl _ hlG.out ?_) | (refine wpList_load_v rfl 120 _ rfl ⟨g', 0, none⟩ rfl _ hlG'.out ?_) |
        (refine wpList_v rfl (.bool false) (run_bin_v rfl rfl rfl (by kernel_rfl) heq.out) ?_) | (refine wpList_v rfl (.bool true) (run_bin_v rfl rfl rfl (by kernel_rfl) heq.out) ?_))
      refine hw6.out.mono ?_
      rintro e w5 ⟨⟨q, d, rfl, hd, hE, hq⟩, hb5⟩
      have k2 := (hG.out.mod ((Mod.refl (fun _ => False) _).after hb5) (fun h => h)).cell (i := 2) (v := .int .i64 R) rfl
      obtain ⟨f1, f2⟩ := hfin.out q d w5 hb5 hq
      replace hE := Lib.hid hE
      replace f1 := Lib.hid f1
      clear hfin hw5 hw6 hG hb hq hb5 k0 k1 heq hlG hlG'
      go_upto_region 6 with fail
      go_quiet (fail)
      go_wp2
      go_ret3
      exact ⟨⟨q, d, rfl, hd, hE.out.below (below_drewN (Below.refl _ _) _), f1.out⟩, below_drewN f2 _⟩
  · obtain ⟨rfl, rfl, rfl⟩ : I = 0 ∧ J = 0 ∧ R = 0 := by have := hz0 h0; simpa using this
    have hX2 := hX.out
    rw [if_pos h0] at hX2
    subst hX2
    have d1 : (E == 0) = false := beq_eq_false_iff_ne.2 h0
    clear hX hz0 hwi k0 k1
    go_wp2_with (first | (refine wpList_load_v rfl 120 _ rfl ⟨g, 0, none⟩ rfl _ hlG.out ?_) | (refine wpList_load_v rfl 120 _ rfl ⟨g', 0, none⟩ rfl _ hlG'.out ?_) |
      (refine wpList_v rfl (.bool true) (run_bin_v rfl rfl rfl (by kernel_rfl) heq.out) ?_))
    go_ret3
    exact ⟨⟨none, 0, rfl, ⟨Nat.le_refl _, by omega⟩, els_nilC _ _, fun a ha => by cases ha⟩, hb.out⟩
end Go.Proofs.Ytpbmeeogledmdae
