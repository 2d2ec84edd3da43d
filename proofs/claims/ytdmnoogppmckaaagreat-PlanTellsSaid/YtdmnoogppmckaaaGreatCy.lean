/-
  Layer 13, the program's: Copy.
-/
import Derived.Test.YtdmnoogppmckaaaGreatPg
import Derived.Test.YtdmnoogppmckaaaGreatPj
import Derived.Test.YtdmnoogppmckaaaGreatPd
import Derived.Test.YtdmnoogppmckaaaGreatKy
namespace Go.Proofs.YtdmnoogppmckaaaGreat
open Go.RowKit

theorem run_nilTr {ρ : Operand → Value} {o : Oper} {w : World} {x : Operand} {p : Option Addr} {n c : Nat} (ho : o.op = .binOp .eql 78 x (.const (.slice none 0 0)) 78) (hx : ρ x = .slice p n c) (hc : ρ (.const (.slice none 0 0)) = .slice none 0 0 := by rfl) :
    (execOp ρ o).run Tryz.prog w = .ok (.value (.bool p.isNone)) w := by
  have h := Lib.run_eql_slice_nil (P := Tryz.prog) w 78 83 p n c 0 0 Tryz.underlying78
  cases p <;> (unfold execOp; simp only [ho, hx, hc]; go_simp)
theorem rsl_trZ (w : World) : (Instr.buildSlice 78 0 #[]).run Tryz.prog w = .ok (.slice (some ⟨w.heap.size, 0, none⟩) 0 0) (w.alloc (.cells #[] 83)) := by kernel_rfl
/-- a row of tours of its own, from base on -/
def TrS (base : Nat) (W : World) (x : Option Addr × Nat) (R : List (List Value)) : Prop :=
  Els W x.1 6 R ∧ (R.length ≤ x.2 ∧ x.2 ≤ 9223372036854775807) ∧ ∃ g C, x.1 = some ⟨g, 0, none⟩ ∧ base ≤ g ∧ Blk W g C 83
theorem TrS.mod {base : Nat} {W W' : World} {x : Option Addr × Nat} {R : List (List Value)} (h : TrS base W x R) (hm : Mod (fun _ => False) W W') : TrS base W' x R := by
  obtain ⟨h1, h2, g, C, h3, h4, h5⟩ := h
  exact ⟨els_modP h1 hm (fun _ _ _ h => h), h2, g, C, h3, h4, h5.mod hm (fun h => h)⟩
set_option maxHeartbeats 1000000 in
set_option maxRecDepth 100000 in
theorem trclone_calls (a : Addr) (c : Nat) (R : List (List Value)) (hlen : ∀ z ∈ R, z.length = 6) (hone : ∀ z ∈ R, ∀ u ∈ z, u.oneCell' = true) (w : World) (hE : Els w (some a) 6 R) (hl : 0 < R.length ∧ R.length ≤ 1000) :
    Calls Tryz.prog 53 #[.slice (some a) R.length c] w fun e w' => Below w.heap.size w w' ∧ ∃ q d, e = .returned (.slice q R.length d) ∧ TrS w.heap.size w' (q, d) R := by
  have ho1 := Lib.hid (World.ownsRow_made (base := w.heap.size) (e := 83) (size := 6) w #[] 0 (Nat.le_refl _) (by unfold maxLen; omega) rfl)
  have hlow1 := Lib.hid (new_below w (.cells #[] 83))
  have hEA := Lib.hid (hE.below hlow1.out)
  have hz1 := Lib.hid hlow1.out.size
  replace hone := Lib.hid hone
  have hle := Lib.hid hlen
  clear hE hlen
  go_enter Tryz.func53, Tryz.ntmps53
  go_wp2_with (first | (refine wpList_v rfl (.bool false) (run_nilTr (p := some a) rfl rfl) ?_) | (refine wpList_bs0 rfl 78 0 rfl _ _ (rsl_trZ _) ?_) |
    (refine wpList_appE tr_el rfl _ _ rfl w.heap.size hz1.out _ 0 [] rfl ho1.out (by omega) (some a) R.length c R rfl hEA.out rfl (by omega) hone.out ?_; intro v6 w6 hO6 hg6))
  have hlow6 := grown_low hlow1.out (Nat.le_refl _) (Nat.le_refl _) ho1.out hg6
  rw [Nat.zero_add, List.nil_append] at hO6
  obtain ⟨qO, nO, dO, rfl⟩ := own_isS hO6
  obtain ⟨hEO, hnO, hdO, _⟩ := own_els (R := R) hle.out hO6 (by omega)
  subst hnO
  have hcap := own_cap hO6
  obtain ⟨g, C, rfl, hg2, hg3, _⟩ := ownS_blk hO6 hl.1
  clear ho1 hlow1 hEA hz1 hg6 hO6 hone hle
  go_wp2_with fail
  go_ret
  exact ⟨hlow6, some ⟨g, 0, none⟩, dO, rfl, hEO, ⟨hdO, hcap⟩, g, C, rfl, hg3, hg2⟩
/-- while a copy is made: its tours, its map, its box -/
def CyC (w : World) (R : List (List Value)) (mm : Int → Option Int) (N : Nat) (B : (Option Addr × Nat) × Nat × Nat → Array Value) (x : (Option Addr × Nat) × Nat × Nat) (b1 b2 b3 : Bool) (W : World) : Prop :=
  Mod (fun _ => False) w W ∧ (b1 = true → TrS w.heap.size W x.1 R) ∧ (b2 = true → MapV Tryz.prog 3 3 W x.2.1 N mm ∧ w.heap.size ≤ x.2.1) ∧ (b3 = true → Blk W x.2.2 (B x) 80 ∧ w.heap.size ≤ x.2.2)
section
variable {w W : World} {R : List (List Value)} {mm : Int → Option Int} {N : Nat} {B : (Option Addr × Nat) × Nat × Nat → Array Value} {x : (Option Addr × Nat) × Nat × Nat} {b1 b2 b3 : Bool}
theorem CyC.m (h : CyC w R mm N B x b1 b2 b3 W) : Mod (fun _ => False) w W := h.1
theorem CyC.tours {W' : World} {q : Option Addr} {d : Nat} (h : CyC w R mm N B x b1 false false W) (hb : Below W.heap.size W W') (hT : TrS W.heap.size W' (q, d) R) : CyC w R mm N B ((q, d), x.2) true false false W' := by
  refine ⟨h.1.after hb, fun _ => ?_, (fun h => by cases h), (fun h => by cases h)⟩
  obtain ⟨h1, h2, g, C, h3, h4, h5⟩ := hT
  exact ⟨h1, h2, g, C, h3, Nat.le_trans h.1.size h4, h5⟩
theorem CyC.map {W' : World} {m : Nat} (h : CyC w R mm N B x true b2 false W) (hb : Below W.heap.size W W') (hM : MapV Tryz.prog 3 3 W' m N mm) (hm : W.heap.size ≤ m) : CyC w R mm N B (x.1, m, x.2.2) true true false W' :=
  ⟨h.1.after hb, fun _ => (h.2.1 rfl).mod ((Mod.refl _ _).after hb), fun _ => ⟨hM, Nat.le_trans h.1.size hm⟩, (fun h => by cases h)⟩
theorem CyC.box (h : CyC w R mm N B x true true b3 W) (hB : B (x.1, x.2.1, W.heap.size) = B x) : CyC w R mm N B (x.1, x.2.1, W.heap.size) true true true (W.alloc (.cells (B x) 80)) :=
  ⟨h.1.alloc _, fun _ => (h.2.1 rfl).mod ((Mod.refl _ _).alloc _), fun _ => ⟨(h.2.2.1 rfl).1.mod ((Mod.refl (fun _ => False) _).alloc _) (fun h => h), (h.2.2.1 rfl).2⟩, fun _ => ⟨by rw [hB]; exact Blk.new _ _ _, h.1.size⟩⟩
end
theorem blk_map_ne {w : World} {g m N : Nat} {C : Array Value} {T k e : TypeId} {mm : Int → Option Int} (hB : Blk w g C T) (hM : MapV Tryz.prog k e w m N mm) : g ≠ m := by
  rintro rfl
  obtain ⟨D, ⟨es, clock, hb, _⟩, _⟩ := hM
  have hB' : w.heap[g]? = some (.cells C T (0, 0)) := hB
  rw [hB'] at hb
  cases hb
theorem blk_ne {w : World} {g g' : Nat} {C C' : Array Value} {T T' : TypeId} (hB : Blk w g C T) (hB2 : Blk w g' C' T') (hT : T ≠ T') : g ≠ g' := by
  rintro rfl
  have h1 : w.heap[g]? = some (.cells C T (0, 0)) := hB
  have h2 : w.heap[g]? = some (.cells C' T' (0, 0)) := hB2
  rw [h1] at h2
  cases h2
  exact hT rfl
section
variable {ρ : Operand → Value} {o : Oper} {w : World} {x y z u : Operand}
theorem run_callTcl {a : Value} (ho : o.op = .call { callee := .value (.func 53), args := #[x], argTypes := #[78] }) (hx : ρ x = a)
    (hf : ρ (.func 53) = .func (.func 53) #[] #[] := by rfl) : (execOp ρ o).run Tryz.prog w = .ok (.enter 53 #[a]) w := by
  unfold execOp
  simp only [ho]
  go_simp
theorem run_callScl {a : Value} (ho : o.op = .call { callee := .value (.func 42), args := #[x], argTypes := #[47] }) (hx : ρ x = a)
    (hf : ρ (.func 42) = .func (.func 42) #[] #[] := by rfl) : (execOp ρ o).run Tryz.prog w = .ok (.enter 42 #[a]) w := by
  unfold execOp
  simp only [ho]
  go_simp
theorem run_callMcl {a : Value} (ho : o.op = .call { callee := .value (.func 54), args := #[x], argTypes := #[77] }) (hx : ρ x = a)
    (hf : ρ (.func 54) = .func (.func 54) #[] #[] := by rfl) : (execOp ρ o).run Tryz.prog w = .ok (.enter 54 #[a]) w := by
  unfold execOp
  simp only [ho]
  go_simp
theorem run_cellMp {p : Addr} {m : Option Nat} (h : w.cell? p = some (.map m)) : (loadVar 77 p).run Tryz.prog w = .ok (.map m) w := by go_simp
theorem run_plB (p q : Option Addr) (n c m d : Nat) (g : Option Nat) (w : World) : (Instr.build 80 #[(0, .slice p n c), (1, .slice q m d), (2, .map g)]).run Tryz.prog w = .ok (.agg #[.slice p n c, .slice q m d, .map g]) w := by kernel_rfl
theorem run_bldPl {p q : Option Addr} {n c m d : Nat} {g : Option Nat} (ho : o.op = .build 80 #[(0, x), (1, y), (2, z)]) (hx : ρ x = .slice p n c) (hy : ρ y = .slice q m d) (hz : ρ z = .map g) :
    (execOp ρ o).run Tryz.prog w = .ok (.value (.agg #[.slice p n c, .slice q m d, .map g])) w := by
  unfold execOp
  simp only [ho, List.map_toArray, List.map_cons, List.map_nil, hx, hy, hz, Sem.run_bind, run_plB, Result.andThen_ok, Sem.run_pure]
theorem run_boxPl {p q : Option Addr} {n c m d : Nat} {g : Option Nat} (ho : o.op = .box 80 x) (hx : ρ x = .agg #[.slice p n c, .slice q m d, .map g]) :
    (execOp ρ o).run Tryz.prog w = .ok (.value (.pointer (some ⟨w.heap.size, 0, none⟩))) (w.alloc (.cells #[.slice p n c, .slice q m d, .map g] 80)) := by
  unfold execOp
  simp only [ho, hx]
  kernel_rfl
end
theorem range_join (F : Nat → Prop) {a b c : Nat} (h1 : a ≤ b) (h2 : b ≤ c) : (fun k => (F k ∨ (a ≤ k ∧ k < b)) ∨ (b ≤ k ∧ k < c)) = fun k => F k ∨ (a ≤ k ∧ k < c) := by
  funext k
  apply propext
  constructor
  · rintro ((h | h) | h)
    · exact .inl h
    · exact .inr (by omega)
    · exact .inr (by omega)
  · rintro (h | h)
    · exact .inl (.inl h)
    · by_cases hk : k < b
      · exact .inl (.inr (by omega))
      · exact .inr (by omega)
theorem set_getDS {α : Type} (l : List α) (i : Nat) (d : α) (hi : i < l.length) : l.set i (l.getD i d) = l := by
  rw [List.getD_eq_getElem?_getD, List.getElem?_eq_getElem hi]
  exact List.set_getElem_self _
/-- the copy, ahead of its routes -/
theorem PlanIn.copy {w w' : World} {F : Nat → Prop} {b gT gM N : Nat} {fl : List Ve} {rows : List Rou2} {t : List Rq} {qT : Option Addr} {dT cT : Nat} {qs : List (Option Addr × Nat)} (h : PlanIn w F b gT gM N fl rows t qT dT cT qs)
    {q : Option Addr} {d m b' : Nat} (hm : Mod (fun _ => False) w w') (hT : TrS w.heap.size w' (q, d) (trs fl rows qs)) (hM : MapV Tryz.prog 3 3 w' m N (whM rows)) (hm0 : w.heap.size ≤ m) (hB : Blk w' b' #[.slice qT t.length dT, .slice q fl.length d, .map (some m)] 80) (hb0 : w.heap.size ≤ b') :
    ∃ g, q = some ⟨g, 0, none⟩ ∧ w.heap.size ≤ g ∧ PlanIn w' (fun k => F k ∨ (w.heap.size ≤ k ∧ k < w'.heap.size)) b' g m N fl rows t qT dT d qs := by
  obtain ⟨h1, h2, g, C, rfl, h4, h5⟩ := hT
  rw [trs_len] at h2
  have lb := hB.lt
  have lg := h5.lt
  have lm := hM.lt
  refine ⟨g, rfl, h4, hB, els_modP h.req hm (fun _ _ _ h => h), ⟨C, h5⟩, h1, hM, fun i => els_modP (h.row i) hm (fun _ _ _ h => h), h.cap, fun i a ha h0 => ?_, fun a ha h0 => ?_, .inr ⟨hb0, lb⟩, .inr ⟨h4, lg⟩, .inr ⟨hm0, lm⟩, blk_ne hB h5 (by decide), blk_map_ne hB hM, blk_map_ne h5 hM, ?_, h.len, h.lenq, ⟨h.many.1, h2⟩, h.tcap⟩
  · have h6 := (h.rowB i a ha h0).1
    have := h.lt _ h6
    exact ⟨.inl h6, by omega, by omega⟩
  · have h6 := (h.reqB a ha h0).1
    have := h.lt _ h6
    exact ⟨.inl h6, by omega, by omega⟩
  · rintro k (hk | hk)
    · exact Nat.lt_of_lt_of_le (h.lt k hk) hm.size
    · exact hk.2
set_option maxHeartbeats 4000000 in
set_option maxRecDepth 100000 in
theorem copy_calls {w : World} {F : Nat → Prop} {b gT gM N : Nat} {fl : List Ve} {rows : List Rou2} {t : List Rq} (h : PlanAt w F b gT gM N fl rows t) (hn0 : 0 < fl.length) (hr : ∀ i, (rows.getD i []).length ≤ 1000) :
    Calls Tryz.prog 24 #[.pointer (some ⟨b, 0, none⟩)] w fun e w' => ∃ b' gT' gM', e = .returned (.pointer (some ⟨b', 0, none⟩)) ∧ PlanAt w' (fun k => F k ∨ (w.heap.size ≤ k ∧ k < w'.heap.size)) b' gT' gM' N fl rows t ∧
      w.heap.size ≤ gT' ∧ w.heap.size ≤ gM' ∧ Below w.heap.size w w' := by
  obtain ⟨qT, dT, cT, qs, h⟩ := h
  have hfl := h.many.1
  have hR : (trs fl rows qs).length = fl.length := trs_len fl rows qs
  have hone : ∀ z ∈ trs fl rows qs, ∀ u ∈ z, u.oneCell' = true := by
    intro z hz
    obtain ⟨i, _, rfl⟩ := List.mem_map.1 hz
    exact tr_one _ _ _
  have hlen : ∀ z ∈ trs fl rows qs, z.length = 6 := by
    intro z hz
    obtain ⟨i, _, rfl⟩ := List.mem_map.1 hz
    rfl
  have htc := Lib.hid (fun wx (hm : Mod (fun _ => False) w wx) => (by
    have := trclone_calls ⟨gT, 0, none⟩ cT (trs fl rows qs) hlen hone wx (els_modP h.tours hm (fun _ _ _ h => h)) (by omega)
    rw [hR] at this
    exact this : Calls Tryz.prog 53 #[.slice (some ⟨gT, 0, none⟩) fl.length cT] wx fun e w' => Below wx.heap.size wx w' ∧ ∃ q d, e = .returned (.slice q fl.length d) ∧ TrS wx.heap.size w' (q, d) (trs fl rows qs)))
  have hmc := Lib.hid (fun wx (hm : Mod (fun _ => False) w wx) => mclone_calls (h.map.mod hm (fun h => h)))
  have hk0 := Lib.hid (fun wx (hm : Mod (fun _ => False) w wx) => run_cellRq ((h.box.mod hm (fun h => h)).cell (i := 0) rfl))
  have hk1 := Lib.hid (fun wx (hm : Mod (fun _ => False) w wx) => run_cellTr ((h.box.mod hm (fun h => h)).cell (i := 1) rfl))
  have hk2 := Lib.hid (fun wx (hm : Mod (fun _ => False) w wx) => run_cellMp ((h.box.mod hm (fun h => h)).cell (i := 2) rfl))
  have hcp := Lib.hid (fun (w' : World) (q : Option Addr) (d m b' : Nat) hm hT hM h1 hB h2 => h.copy (w' := w') (q := q) (d := d) (m := m) (b' := b') hm hT hM h1 hB h2)
  obtain ⟨n, hn⟩ : ∃ n, fl.length = n := ⟨_, rfl⟩
  obtain ⟨T, hT⟩ : ∃ T, t.length = T := ⟨_, rfl⟩
  have hrl := h.len
  have hql := h.lenq
  obtain ⟨R, hRR⟩ : ∃ R, trs fl rows qs = R := ⟨_, rfl⟩
  obtain ⟨mm, hmm⟩ : ∃ mm, whM rows = mm := ⟨_, rfl⟩
  rw [hn] at htc hk1 hrl hql hfl hn0
  rw [hT] at hk0
  rw [hmm] at hmc
  rw [hRR] at htc
  replace hn := Lib.hid hn
  replace hT := Lib.hid hT
  replace hRR := Lib.hid hRR
  replace hmm := Lib.hid hmm
  replace hrl := Lib.hid hrl
  replace hql := Lib.hid hql
  replace hr := Lib.hid hr
  clear h hR hone hlen
  go_enter Tryz.func24, Tryz.ntmps24
  go_upto_region 3 with fail
  refine wp_region_rove (X := (Option Addr × Nat) × Nat × Nat) ((none, 0), 0, 0) (fun x => [(7, .pointer (some ⟨b, 0, none⟩)), (8, .pointer (some ⟨b, 0, none⟩)), (9, .pointer (some ⟨b, 0, none⟩)), (10, .slice qT T dT), (11, .pointer (some ⟨b, 0, none⟩)), (12, .pointer (some ⟨b, 0, none⟩)), (13, .pointer (some ⟨b, 1, none⟩)), (14, .slice (some ⟨gT, 0, none⟩) n cT), (16, .pointer (some ⟨b, 0, none⟩)), (17, .pointer (some ⟨b, 0, none⟩)), (18, .pointer (some ⟨b, 2, none⟩)), (19, .map (some gM))] ++ ([(15, .slice x.1.1 n x.1.2)] ++ ([(20, .map (some x.2.1)), (21, .agg #[.slice qT T dT, .slice x.1.1 n x.1.2, .map (some x.2.1)])] ++ [(22, .pointer (some ⟨x.2.2, 0, none⟩)), (3, .pointer (some ⟨x.2.2, 0, none⟩))])))
    (fun x d W' => CyC w R mm N (fun x => #[.slice qT T dT, .slice x.1.1 n x.1.2, .map (some x.2.1)]) x (d 8) (d 13) (d 15) W' ∧ (d 14 = true → d 8 = true ∧ d 13 = true)) (by kernel_rfl) (by kernel_rfl) (by kernel_rfl) (by kernel_rfl) (fun x => by kernel_rfl)
    ⟨⟨(Mod.refl _ _).drew, (fun h => by cases h), (fun h => by cases h), (fun h => by cases h)⟩, fun h => by cases h⟩ ?_ ?_
  · intro aF hAF
    have E0 : ∀ x, (aF x).eval (.tmp 0) = .pointer (some ⟨b, 0, none⟩) := by intro x; rw [hAF]; kernel_rfl
    have T7 : ∀ x, (aF x).tmps[7]? = some (.pointer (some ⟨b, 0, none⟩)) := by intro x; rw [hAF]; kernel_rfl
    have E7 : ∀ x, (aF x).eval (.tmp 7) = .pointer (some ⟨b, 0, none⟩) := by intro x; rw [hAF]; kernel_rfl
    have T8 : ∀ x, (aF x).tmps[8]? = some (.pointer (some ⟨b, 0, none⟩)) := by intro x; rw [hAF]; kernel_rfl
    have E8 : ∀ x, (aF x).eval (.tmp 8) = .pointer (some ⟨b, 0, none⟩) := by intro x; rw [hAF]; kernel_rfl
    have T9 : ∀ x, (aF x).tmps[9]? = some (.pointer (some ⟨b, 0, none⟩)) := by intro x; rw [hAF]; kernel_rfl
    have E9 : ∀ x, (aF x).eval (.tmp 9) = .pointer (some ⟨b, 0, none⟩) := by intro x; rw [hAF]; kernel_rfl
    have T10 : ∀ x, (aF x).tmps[10]? = some (.slice qT T dT) := by intro x; rw [hAF]; kernel_rfl
    have E10 : ∀ x, (aF x).eval (.tmp 10) = .slice qT T dT := by intro x; rw [hAF]; kernel_rfl
    have T11 : ∀ x, (aF x).tmps[11]? = some (.pointer (some ⟨b, 0, none⟩)) := by intro x; rw [hAF]; kernel_rfl
    have E11 : ∀ x, (aF x).eval (.tmp 11) = .pointer (some ⟨b, 0, none⟩) := by intro x; rw [hAF]; kernel_rfl
    have T12 : ∀ x, (aF x).tmps[12]? = some (.pointer (some ⟨b, 0, none⟩)) := by intro x; rw [hAF]; kernel_rfl
    have E12 : ∀ x, (aF x).eval (.tmp 12) = .pointer (some ⟨b, 0, none⟩) := by intro x; rw [hAF]; kernel_rfl
    have T13 : ∀ x, (aF x).tmps[13]? = some (.pointer (some ⟨b, 1, none⟩)) := by intro x; rw [hAF]; kernel_rfl
    have E13 : ∀ x, (aF x).eval (.tmp 13) = .pointer (some ⟨b, 1, none⟩) := by intro x; rw [hAF]; kernel_rfl
    have T14 : ∀ x, (aF x).tmps[14]? = some (.slice (some ⟨gT, 0, none⟩) n cT) := by intro x; rw [hAF]; kernel_rfl
    have E14 : ∀ x, (aF x).eval (.tmp 14) = .slice (some ⟨gT, 0, none⟩) n cT := by intro x; rw [hAF]; kernel_rfl
    have T16 : ∀ x, (aF x).tmps[16]? = some (.pointer (some ⟨b, 0, none⟩)) := by intro x; rw [hAF]; kernel_rfl
    have E16 : ∀ x, (aF x).eval (.tmp 16) = .pointer (some ⟨b, 0, none⟩) := by intro x; rw [hAF]; kernel_rfl
    have T17 : ∀ x, (aF x).tmps[17]? = some (.pointer (some ⟨b, 0, none⟩)) := by intro x; rw [hAF]; kernel_rfl
    have E17 : ∀ x, (aF x).eval (.tmp 17) = .pointer (some ⟨b, 0, none⟩) := by intro x; rw [hAF]; kernel_rfl
    have T18 : ∀ x, (aF x).tmps[18]? = some (.pointer (some ⟨b, 2, none⟩)) := by intro x; rw [hAF]; kernel_rfl
    have E18 : ∀ x, (aF x).eval (.tmp 18) = .pointer (some ⟨b, 2, none⟩) := by intro x; rw [hAF]; kernel_rfl
    have T19 : ∀ x, (aF x).tmps[19]? = some (.map (some gM)) := by intro x; rw [hAF]; kernel_rfl
    have E19 : ∀ x, (aF x).eval (.tmp 19) = .map (some gM) := by intro x; rw [hAF]; kernel_rfl
    have T15 : ∀ x, (aF x).tmps[15]? = some (.slice x.1.1 n x.1.2) := by intro x; rw [hAF]; kernel_rfl
    have E15 : ∀ x, (aF x).eval (.tmp 15) = .slice x.1.1 n x.1.2 := by intro x; rw [hAF]; kernel_rfl
    have T20 : ∀ x, (aF x).tmps[20]? = some (.map (some x.2.1)) := by intro x; rw [hAF]; kernel_rfl
    have E20 : ∀ x, (aF x).eval (.tmp 20) = .map (some x.2.1) := by intro x; rw [hAF]; kernel_rfl
    have T21 : ∀ x, (aF x).tmps[21]? = some (.agg #[.slice qT T dT, .slice x.1.1 n x.1.2, .map (some x.2.1)]) := by intro x; rw [hAF]; kernel_rfl
    have E21 : ∀ x, (aF x).eval (.tmp 21) = .agg #[.slice qT T dT, .slice x.1.1 n x.1.2, .map (some x.2.1)] := by intro x; rw [hAF]; kernel_rfl
    have T22 : ∀ x, (aF x).tmps[22]? = some (.pointer (some ⟨x.2.2, 0, none⟩)) := by intro x; rw [hAF]; kernel_rfl
    have E22 : ∀ x, (aF x).eval (.tmp 22) = .pointer (some ⟨x.2.2, 0, none⟩) := by intro x; rw [hAF]; kernel_rfl
    have T3 : ∀ x, (aF x).tmps[3]? = some (.pointer (some ⟨x.2.2, 0, none⟩)) := by intro x; rw [hAF]; kernel_rfl
    have E3 : ∀ x, (aF x).eval (.tmp 3) = .pointer (some ⟨x.2.2, 0, none⟩) := by intro x; rw [hAF]; kernel_rfl
    replace hAF := Lib.hid hAF
    refine ⟨?_, ?_, ?_, ?_, ?_, ?_, ?_, ?_, ?_, ?_, ?_, ?_, ?_, ?_, ?_, ?_, ?_, trivial⟩
    · exact opOk3_quiet _ (by intro x t hd _; cases hd; exact T7 x) (fun _ => rfl) fun x d w' hd hc => sv (run_mov rfl (E0 x)) hc
    · exact opOk3_quiet _ (by intro x t hd _; cases hd; exact T8 x) (fun _ => rfl) fun x d w' hd hc => sv (run_nilP rfl (E7 x)) hc
    · exact opOk3_quiet _ (by intro x t hd _; cases hd; exact T9 x) (fun _ => rfl) fun x d w' hd hc => sv (run_fldT rfl (E8 x) (fun _ => by kernel_rfl)) hc
    · exact opOk3_quiet _ (by intro x t hd _; cases hd; exact T10 x) (fun _ => rfl) fun x d w' hd hc => sv (run_load1 rfl (E9 x) (hk0.out _ hc.1.m)) hc
    · exact opOk3_quiet _ (by intro x t hd _; cases hd; exact T11 x) (fun _ => rfl) fun x d w' hd hc => sv (run_mov rfl (E0 x)) hc
    · exact opOk3_quiet _ (by intro x t hd _; cases hd; exact T12 x) (fun _ => rfl) fun x d w' hd hc => sv (run_nilP rfl (E11 x)) hc
    · exact opOk3_quiet _ (by intro x t hd _; cases hd; exact T13 x) (fun _ => rfl) fun x d w' hd hc => sv (run_fldT rfl (E12 x) (fun _ => by kernel_rfl)) hc
    · exact opOk3_quiet _ (by intro x t hd _; cases hd; exact T14 x) (fun _ => rfl) fun x d w' hd hc => sv (run_load1 rfl (E13 x) (hk1.out _ hc.1.m)) hc
    · exact opOk3_loud rfl fun x d w' hd hn hc => by
          have n13 : d 13 = false := hn 13 (by kernel_rfl)
          have n15 : d 15 = false := hn 15 (by kernel_rfl)
          have n14 : d 14 = false := hn 14 (by kernel_rfl)
          obtain ⟨hc, _⟩ := hc
          rw [n13, n15] at hc
          refine sk (run_callTcl rfl (E14 x)) ((htc.out w' hc.m).mono ?_)
          rintro e w'' ⟨hb, q, dd, rfl, hT⟩
          refine ⟨_, rfl, ((q, dd), x.2), (by rw [hAF.out]; exact agree_any (by kernel_rfl) (by kernel_rfl)), (by intro t hd _; cases hd; exact T15 _), ?_⟩
          refine ⟨?_, fun h => (by have h' : d 14 = true := h; rw [n14] at h'; cases h')⟩
          show CyC w R mm N _ _ true (d 13) (d 15) _
          rw [n13, n15]
          exact hc.tours hb hT
    · exact opOk3_quiet _ (by intro x t hd _; cases hd; exact T16 x) (fun _ => rfl) fun x d w' hd hc => sv (run_mov rfl (E0 x)) hc
    · exact opOk3_quiet _ (by intro x t hd _; cases hd; exact T17 x) (fun _ => rfl) fun x d w' hd hc => sv (run_nilP rfl (E16 x)) hc
    · exact opOk3_quiet _ (by intro x t hd _; cases hd; exact T18 x) (fun _ => rfl) fun x d w' hd hc => sv (run_fldT rfl (E17 x) (fun _ => by kernel_rfl)) hc
    · exact opOk3_quiet _ (by intro x t hd _; cases hd; exact T19 x) (fun _ => rfl) fun x d w' hd hc => sv (run_load1 rfl (E18 x) (hk2.out _ hc.1.m)) hc
    · exact opOk3_loud rfl fun x d w' hd hn hc => by
          have n8 : d 8 = true := hd 8 (by kernel_rfl)
          have n15 : d 15 = false := hn 15 (by kernel_rfl)
          have n14 : d 14 = false := hn 14 (by kernel_rfl)
          obtain ⟨hc, _⟩ := hc
          rw [n8, n15] at hc
          refine sk (run_callMcl rfl (E19 x)) ((hmc.out w' hc.m).mono ?_)
          rintro e w'' ⟨rfl, hM, hb⟩
          refine ⟨_, rfl, (x.1, w'.heap.size, x.2.2), (by rw [hAF.out]; exact agree_any2 (m := [(15, .slice x.1.1 n x.1.2)]) (by kernel_rfl) (by kernel_rfl)), (by intro t hd _; cases hd; exact T20 _), ?_⟩
          refine ⟨?_, fun h => (by have h' : d 14 = true := h; rw [n14] at h'; cases h')⟩
          show CyC w R mm N _ _ (d 8) true (d 15) _
          rw [n8, n15]
          exact hc.map hb hM (Nat.le_refl _)
    · exact opOk3_quiet (fun x => .agg #[.slice qT T dT, .slice x.1.1 n x.1.2, .map (some x.2.1)]) (by intro x t hd _; cases hd; exact T21 x) (fun _ => rfl) fun x d w' hd hc => sv (run_bldPl rfl (E10 x) (E15 x) (E20 x)) ⟨hc.1, fun _ => ⟨hd 8 (by kernel_rfl), hd 13 (by kernel_rfl)⟩⟩
    · exact opOk3_loud rfl fun x d w' hd hn hc => by
          have n14 : d 14 = true := hd 14 (by kernel_rfl)
          obtain ⟨hc, h14⟩ := hc
          obtain ⟨n8, n13⟩ := h14 n14
          rw [n8, n13] at hc
          refine sk_v (run_boxPl rfl (E21 x)) ⟨(x.1, x.2.1, w'.heap.size), (by rw [hAF.out]; exact agree_any2 (m := [(15, .slice x.1.1 n x.1.2), (20, .map (some x.2.1)), (21, .agg #[.slice qT T dT, .slice x.1.1 n x.1.2, .map (some x.2.1)])]) (p := [(22, .pointer (some ⟨x.2.2, 0, none⟩)), (3, .pointer (some ⟨x.2.2, 0, none⟩))]) (q := [(22, .pointer (some ⟨w'.heap.size, 0, none⟩)), (3, .pointer (some ⟨w'.heap.size, 0, none⟩))]) (by kernel_rfl) (by kernel_rfl)), (by intro t hd _; cases hd; exact T22 _), ?_⟩
          refine ⟨?_, fun _ => ⟨n8, n13⟩⟩
          show CyC w R mm N _ _ (d 8) (d 13) true _
          rw [n8, n13]
          exact hc.box rfl
    · exact opOk3_quiet (fun x => .pointer (some ⟨x.2.2, 0, none⟩)) (by intro x t hd _; cases hd; exact T3 x) (fun _ => rfl) fun x d w' hd hc => sv (run_asg rfl (E22 x)) hc
  · intro x d w' hd hc
    simp only [putAll, List.foldl_cons, List.foldl_nil, List.cons_append, List.nil_append, Act.put, List.setIfInBounds_toArray, List.set_cons_succ, List.set_cons_zero]
    obtain ⟨⟨hm, h1, h2, h3⟩, _⟩ := hc
    obtain ⟨h2, h2b⟩ := h2 (hd 13 (by decide))
    obtain ⟨h3, h3b⟩ := h3 (hd 15 (by decide))
    replace h1 := h1 (hd 8 (by decide))
    obtain ⟨⟨q0, d0⟩, m0, b0⟩ := x
    dsimp only at h1 h2 h2b h3 h3b ⊢
    have hz := hm.size
    obtain ⟨g, rfl, hg0, hIn⟩ := hcp.out _ _ _ _ _ hm (hRR.out ▸ h1) (hmm.out ▸ h2) h2b (by rw [hT.out, hn.out]; exact h3) h3b
    have hk4 := Lib.hid (fun wx (hm : Mod (fun _ => False) w' wx) => run_cellTr ((h3.mod hm (fun h => h)).cell (i := 1) rfl))
    have hk4' := Lib.hid (hk4.out _ (Mod.refl _ _))
    have hbw := hm.below (Nat.le_refl _) (fun _ h => h.elim)
    replace hIn := Lib.hid hIn
    replace hbw := Lib.hid hbw
    replace h3 := Lib.hid h3
    clear h1 h2 hm htc hmc hk0 hk1 hk2 hcp hd
    go_wp2_with (refine wpList_load_v rfl 78 _ rfl ⟨b0, 1, none⟩ rfl _ hk4'.out ?_)
    go_loopw [28] (fun s28 wx => ∃ (k : Nat) (qs : List (Option Addr × Nat)), k ≤ n ∧ s28 = .int .i64 k ∧ PlanIn wx (fun k => F k ∨ (w.heap.size ≤ k ∧ k < wx.heap.size)) b0 g m0 N fl rows t qT dT d0 qs ∧ Below w.heap.size w wx) (fun s28 _ => n - (intOf s28).toNat)
    case atStart => exact ⟨0, qs, Nat.zero_le _, rfl, hIn.out, hbw.out⟩
    case round =>
      clear hIn hbw hk4 hk4' h3
      obtain ⟨k, qs, hk, rfl, hI, hb⟩ := hrel
      by_cases hlt : k < n
      · have hltI : (k : Int) < (n : Int) := by omega
        have hi0 : (0 : Int) ≤ (k : Int) := by omega
        have s1 : IntKind.i64.wrap ((k : Int) + 1) = (k : Int) + 1 := IntWalk.i64_in _ (by omega)
        have hkf : k < fl.length := by rw [hn.out]; exact hlt
        have hkr : k < rows.length := by rw [hrl.out]; exact hlt
        have hlen : k < (trs fl rows qs).length := by rw [trs_len]; exact hkf
        have hkq : k < qs.length := by rw [hI.lenq]; exact hkf
        have hset0 := set_getDS rows k [] hkr
        have hcell := fun wx (hb : Mod (fun _ => False) wr wx) (j : Nat) (v : Value) (hj : (trV (fl.getD k ve0) (qs.getD k (none, 0)) (rows.getD k []).length)[j]? = some v) => (by
          have := (els_modP hI.tours hb (fun _ _ _ h => h)).cells _ rfl k _ j v (trs_at fl rows qs hkf) hj
          rwa [addr0P] at this : wx.cell? ⟨g, k * 6 + j, none⟩ = some v)
        have hfz := Lib.hid (fun wx (hb : Mod (fun _ => False) wr wx) => (by obtain ⟨C, hC⟩ := hI.tb; exact (hC.mod hb (fun h => h)).froz (k * 6 + 5) : wx.frozen? ⟨g, k * 6 + 5, none⟩ = false))
        have hk5 := Lib.hid (fun wx (hb : Mod (fun _ => False) wr wx) => hcell wx hb 5 _ rfl)
        have hlq := Lib.hid (fun wx (hb : Mod (fun _ => False) wr wx) => run_cellSt (hk5.out wx hb))
        have hk1 := Lib.hid (fun wx (hb : Mod (fun _ => False) wr wx) => run_cellTr ((hI.box.mod hb (fun h => h)).cell (i := 1) rfl))
        rw [hn.out] at hk1
        have hcl := Lib.hid (fun wx (hm : Mod (fun _ => False) wr wx) => clone_calls (qs.getD k (none, 0)).1 (qs.getD k (none, 0)).2 (rows.getD k []) wx (els_modP (hI.row k) hm (fun _ _ _ h => h)) (hr.out k))
        unfold ClPost at hcl
        have hset := Lib.hid (fun (C : Array Value) (wx : World) (hb : Mod (fun _ => False) wr wx) (hB : Blk wx g C 83) q d => (by
          have := els_setP hB (els_modP hI.tours hb (fun _ _ _ h => h)) hlen (J := 5) (by omega) (.slice q (rows.getD k []).length d)
          rwa [trs_set fl rows qs hkf hI.len hI.lenq (rows.getD k []) q d hlen] at this : Els (wx.setCell ⟨g, k * 6 + 5, none⟩ (.slice q (rows.getD k []).length d)) (some ⟨g, 0, none⟩) 6 (trs fl (rows.set k (rows.getD k [])) (qs.set k (q, d)))))
        have hne := hI.ne3
        have hgl := hI.lt g hI.fT
        have hH := Lib.hid hI
        replace hb := Lib.hid hb
        obtain ⟨L, hL⟩ : ∃ L, rows.getD k [] = L := ⟨_, rfl⟩
        rw [hL] at hcl hset hlq hk5 hset0
        replace hset0 := Lib.hid hset0
        replace hL := Lib.hid hL
        generalize (qs.getD k (none, 0)).1 = qi at *
        generalize (qs.getD k (none, 0)).2 = di at *
        obtain ⟨ln, hln⟩ : ∃ ln, L.length = ln := ⟨_, rfl⟩
        have hln2 := Lib.hid hln
        rw [hln] at hlq hk5
        clear hI hlen hcell
        rw [hln] at hcl
        replace hln := Lib.hid hln
        go_upto_region 7 with fail
        refine wp_region_rove (X := Option Addr × Nat) (none, 0) (fun x => [(31, .pointer (some ⟨b0, 0, none⟩)), (32, .pointer (some ⟨b0, 0, none⟩)), (33, .pointer (some ⟨b0, 1, none⟩)), (34, .slice (some ⟨g, 0, none⟩) n d0), (35, .int .i64 (k : Int)), (36, .pointer (some ⟨b0, 0, none⟩)), (37, .pointer (some ⟨b0, 0, none⟩)), (38, .pointer (some ⟨b0, 1, none⟩)), (39, .slice (some ⟨g, 0, none⟩) n d0), (40, .int .i64 (k : Int)), (41, .pointer (some ⟨g, k * 6, none⟩)), (42, .pointer (some ⟨g, k * 6 + 5, none⟩)), (43, .slice qi ln di), (45, .pointer (some ⟨g, k * 6, none⟩)), (46, .pointer (some ⟨g, k * 6 + 5, none⟩))] ++ [(44, .slice x.1 ln x.2)])
          (fun x d W' => ClR L ⟨g, k * 6 + 5, none⟩ wr x (d 13) (d 16) W') (by kernel_rfl) (by kernel_rfl) (by kernel_rfl) (by kernel_rfl) (fun x => by kernel_rfl)
          (ClR.start (Mod.refl _ _).drew) ?_ ?_
        · intro aF hAF
          have E3 : ∀ x, (aF x).eval (.tmp 3) = .pointer (some ⟨b0, 0, none⟩) := by intro x; rw [hAF]; kernel_rfl
          have E4 : ∀ x, (aF x).eval (.tmp 4) = .int .i64 (k : Int) := by intro x; rw [hAF]; kernel_rfl
          have T31 : ∀ x, (aF x).tmps[31]? = some (.pointer (some ⟨b0, 0, none⟩)) := by intro x; rw [hAF]; kernel_rfl
          have E31 : ∀ x, (aF x).eval (.tmp 31) = .pointer (some ⟨b0, 0, none⟩) := by intro x; rw [hAF]; kernel_rfl
          have T32 : ∀ x, (aF x).tmps[32]? = some (.pointer (some ⟨b0, 0, none⟩)) := by intro x; rw [hAF]; kernel_rfl
          have E32 : ∀ x, (aF x).eval (.tmp 32) = .pointer (some ⟨b0, 0, none⟩) := by intro x; rw [hAF]; kernel_rfl
          have T33 : ∀ x, (aF x).tmps[33]? = some (.pointer (some ⟨b0, 1, none⟩)) := by intro x; rw [hAF]; kernel_rfl
          have E33 : ∀ x, (aF x).eval (.tmp 33) = .pointer (some ⟨b0, 1, none⟩) := by intro x; rw [hAF]; kernel_rfl
          have T34 : ∀ x, (aF x).tmps[34]? = some (.slice (some ⟨g, 0, none⟩) n d0) := by intro x; rw [hAF]; kernel_rfl
          have E34 : ∀ x, (aF x).eval (.tmp 34) = .slice (some ⟨g, 0, none⟩) n d0 := by intro x; rw [hAF]; kernel_rfl
          have T35 : ∀ x, (aF x).tmps[35]? = some (.int .i64 (k : Int)) := by intro x; rw [hAF]; kernel_rfl
          have E35 : ∀ x, (aF x).eval (.tmp 35) = .int .i64 (k : Int) := by intro x; rw [hAF]; kernel_rfl
          have T36 : ∀ x, (aF x).tmps[36]? = some (.pointer (some ⟨b0, 0, none⟩)) := by intro x; rw [hAF]; kernel_rfl
          have E36 : ∀ x, (aF x).eval (.tmp 36) = .pointer (some ⟨b0, 0, none⟩) := by intro x; rw [hAF]; kernel_rfl
          have T37 : ∀ x, (aF x).tmps[37]? = some (.pointer (some ⟨b0, 0, none⟩)) := by intro x; rw [hAF]; kernel_rfl
          have E37 : ∀ x, (aF x).eval (.tmp 37) = .pointer (some ⟨b0, 0, none⟩) := by intro x; rw [hAF]; kernel_rfl
          have T38 : ∀ x, (aF x).tmps[38]? = some (.pointer (some ⟨b0, 1, none⟩)) := by intro x; rw [hAF]; kernel_rfl
          have E38 : ∀ x, (aF x).eval (.tmp 38) = .pointer (some ⟨b0, 1, none⟩) := by intro x; rw [hAF]; kernel_rfl
          have T39 : ∀ x, (aF x).tmps[39]? = some (.slice (some ⟨g, 0, none⟩) n d0) := by intro x; rw [hAF]; kernel_rfl
          have E39 : ∀ x, (aF x).eval (.tmp 39) = .slice (some ⟨g, 0, none⟩) n d0 := by intro x; rw [hAF]; kernel_rfl
          have T40 : ∀ x, (aF x).tmps[40]? = some (.int .i64 (k : Int)) := by intro x; rw [hAF]; kernel_rfl
          have E40 : ∀ x, (aF x).eval (.tmp 40) = .int .i64 (k : Int) := by intro x; rw [hAF]; kernel_rfl
          have T41 : ∀ x, (aF x).tmps[41]? = some (.pointer (some ⟨g, k * 6, none⟩)) := by intro x; rw [hAF]; kernel_rfl
          have E41 : ∀ x, (aF x).eval (.tmp 41) = .pointer (some ⟨g, k * 6, none⟩) := by intro x; rw [hAF]; kernel_rfl
          have T42 : ∀ x, (aF x).tmps[42]? = some (.pointer (some ⟨g, k * 6 + 5, none⟩)) := by intro x; rw [hAF]; kernel_rfl
          have E42 : ∀ x, (aF x).eval (.tmp 42) = .pointer (some ⟨g, k * 6 + 5, none⟩) := by intro x; rw [hAF]; kernel_rfl
          have T43 : ∀ x, (aF x).tmps[43]? = some (.slice qi ln di) := by intro x; rw [hAF]; kernel_rfl
          have E43 : ∀ x, (aF x).eval (.tmp 43) = .slice qi ln di := by intro x; rw [hAF]; kernel_rfl
          have T45 : ∀ x, (aF x).tmps[45]? = some (.pointer (some ⟨g, k * 6, none⟩)) := by intro x; rw [hAF]; kernel_rfl
          have E45 : ∀ x, (aF x).eval (.tmp 45) = .pointer (some ⟨g, k * 6, none⟩) := by intro x; rw [hAF]; kernel_rfl
          have T46 : ∀ x, (aF x).tmps[46]? = some (.pointer (some ⟨g, k * 6 + 5, none⟩)) := by intro x; rw [hAF]; kernel_rfl
          have E46 : ∀ x, (aF x).eval (.tmp 46) = .pointer (some ⟨g, k * 6 + 5, none⟩) := by intro x; rw [hAF]; kernel_rfl
          have T44 : ∀ x, (aF x).tmps[44]? = some (.slice x.1 ln x.2) := by intro x; rw [hAF]; kernel_rfl
          have E44 : ∀ x, (aF x).eval (.tmp 44) = .slice x.1 ln x.2 := by intro x; rw [hAF]; kernel_rfl
          replace hAF := Lib.hid hAF
          refine ⟨?_, ?_, ?_, ?_, ?_, ?_, ?_, ?_, ?_, ?_, ?_, ?_, ?_, ?_, ?_, ?_, ?_, trivial⟩
          · exact opOk3_quiet _ (by intro x t hd _; cases hd; exact T31 x) (fun _ => rfl) fun x d w' hd hc => sv (run_mov rfl (E3 x)) hc
          · exact opOk3_quiet _ (by intro x t hd _; cases hd; exact T32 x) (fun _ => rfl) fun x d w' hd hc => sv (run_nilP rfl (E31 x)) hc
          · exact opOk3_quiet _ (by intro x t hd _; cases hd; exact T33 x) (fun _ => rfl) fun x d w' hd hc => sv (run_fldT rfl (E32 x) (fun _ => by kernel_rfl)) hc
          · exact opOk3_quietL _ (by intro x t hd _; cases hd; exact T34 x) (fun _ => rfl) fun x d w' hd hn hc => sv (run_load1 rfl (E33 x) (hk1.out _ (ClR.m (by have n := hn 16 (by kernel_rfl); rw [n] at hc; exact hc)))) hc
          · exact opOk3_quiet _ (by intro x t hd _; cases hd; exact T35 x) (fun _ => rfl) fun x d w' hd hc => sv (run_mov rfl (E4 x)) hc
          · exact opOk3_quiet _ (by intro x t hd _; cases hd; exact T36 x) (fun _ => rfl) fun x d w' hd hc => sv (run_mov rfl (E3 x)) hc
          · exact opOk3_quiet _ (by intro x t hd _; cases hd; exact T37 x) (fun _ => rfl) fun x d w' hd hc => sv (run_nilP rfl (E36 x)) hc
          · exact opOk3_quiet _ (by intro x t hd _; cases hd; exact T38 x) (fun _ => rfl) fun x d w' hd hc => sv (run_fldT rfl (E37 x) (fun _ => by kernel_rfl)) hc
          · exact opOk3_quietL _ (by intro x t hd _; cases hd; exact T39 x) (fun _ => rfl) fun x d w' hd hn hc => sv (run_load1 rfl (E38 x) (hk1.out _ (ClR.m (by have n := hn 16 (by kernel_rfl); rw [n] at hc; exact hc)))) hc
          · exact opOk3_quiet _ (by intro x t hd _; cases hd; exact T40 x) (fun _ => rfl) fun x d w' hd hc => sv (run_mov rfl (E4 x)) hc
          · exact opOk3_quiet _ (by intro x t hd _; cases hd; exact T41 x) (fun _ => rfl) fun x d w' hd hc => sv (run_ixTr0 rfl (E39 x) (E40 x) hlt) hc
          · exact opOk3_quiet _ (by intro x t hd _; cases hd; exact T42 x) (fun _ => rfl) fun x d w' hd hc => sv (run_fldT rfl (E41 x) (fun _ => by kernel_rfl)) hc
          · exact opOk3_quietL _ (by intro x t hd _; cases hd; exact T43 x) (fun _ => rfl) fun x d w' hd hn hc => sv (run_load1 rfl (E42 x) (hlq.out _ (ClR.m (by have n := hn 16 (by kernel_rfl); rw [n] at hc; exact hc)))) hc
          · exact opOk3_loud rfl fun x d w' hd hn hc => by
                have n2 : d 16 = false := hn 16 (by kernel_rfl)
                rw [n2] at hc
                have hm := hc.m
                refine sk (run_callScl rfl (E43 x)) ((hcl.out w' hm).mono ?_)
                rintro e w'' ⟨hb, q, dd, rfl, h2, h3, h4⟩
                refine ⟨_, rfl, (q, dd), (by rw [hAF.out]; exact agree_any (by kernel_rfl) (by kernel_rfl)), (by intro t hd _; cases hd; exact T44 _), ?_⟩
                show ClR L _ wr _ true (d 16) _
                rw [n2]
                exact ClR.callN hm hb h3 (by rw [hln.out]; exact h2) (fun h0 a ha => (by obtain ⟨g, C, e1, e2, _⟩ := h4 (by rw [← hln.out]; cases L with | nil => exact absurd rfl h0 | cons _ _ => simp); rw [e1] at ha; cases ha; exact e2))
          · exact opOk3_quiet _ (by intro x t hd _; cases hd; exact T45 x) (fun _ => rfl) fun x d w' hd hc => sv (run_ixTr0 rfl (E34 x) (E35 x) hlt) hc
          · exact opOk3_quiet _ (by intro x t hd _; cases hd; exact T46 x) (fun _ => rfl) fun x d w' hd hc => sv (run_fldT rfl (E45 x) (fun _ => by kernel_rfl)) hc
          · exact opOk3_loud rfl fun x d w' hd hn hc => by
                have n1 : d 13 = true := hd 13 (by kernel_rfl)
                have n2 : d 16 = false := hn 16 (by kernel_rfl)
                rw [n1, n2] at hc
                have hm := hc.m
                refine sk_s (run_storeS rfl (E46 x) (E44 x) (hk5.out w' hm) (hfz.out w' hm)) ⟨x, agree_same _ _, (by intro t hd _; cases hd), ?_⟩
                show ClR L _ wr _ (d 13) true _
                rw [n1, ← hln.out]
                exact hc.put
        · intro x d w' hd hc
          simp only [putAll, List.foldl_cons, List.foldl_nil, List.cons_append, List.nil_append, Act.put, List.setIfInBounds_toArray, List.set_cons_succ, List.set_cons_zero]
          rw [hd 13 (by decide), hd 16 (by decide)] at hc
          obtain ⟨W4, hm4, hx, hW5⟩ := hc
          obtain ⟨q, dq⟩ := x
          obtain ⟨hE, hcap, hf⟩ := hx rfl
          dsimp only at hE hcap hf hW5 ⊢
          rw [hln2.out] at hW5
          replace hW5 : w' = W4.setCell ⟨g, k * 6 + 5, none⟩ (.slice q ln dq) := hW5
          have hm5 := (Mod.refl (· = g) W4).setCell (p := ⟨g, k * 6 + 5, none⟩) (fun _ => rfl) (.slice q ln dq)
          rw [← hW5] at hm5
          obtain ⟨C, hC⟩ := hH.out.tb
          have hC4 := hC.mod hm4 (fun h => h)
          have hT5 := hset.out C W4 hm4 hC4 q dq
          rw [hln2.out, hset0.out] at hT5
          have hC5 := hC4.set (k * 6 + 5) (.slice q ln dq)
          rw [← hW5] at hT5 hC5
          have hM5 := (hH.out.map.mod hm4 (fun h => h)).mod hm5 (fun e => hne e.symm)
          have hall : Mod (fun k => k = g ∨ k = m0) wr w' := (hm4.mono (fun _ _ h => h.elim)).trans (hm5.mono (fun _ _ h => .inl h))
          have hnx := hH.out.next (N' := N) (i := k) (l := L) (q := q) (d := dq) hall hkf (by rw [hset0.out]; exact hT5) ⟨_, hC5⟩ (by rw [hset0.out]; exact hM5)
            (els_modP hE hm5 (fun a ha h0 e => (by have := hf (fun h => h0 (by rw [h]; rfl)) a ha; have : a.block = g := e; omega)))
            hcap (fun h0 a ha => ⟨(hf h0 a ha).1, Nat.lt_of_lt_of_le (hf h0 a ha).2 hm5.size⟩)
          rw [hset0.out, range_join F hb.out.size hall.size] at hnx
          have hb5 := hb.out.trans (hall.below hb.out.size (fun k hk => by omega))
          replace hnx := Lib.hid hnx
          replace hb5 := Lib.hid hb5
          clear hE hcap hf hW5 hm5 hC hC4 hT5 hC5 hM5 hm4 hx hd hH hset hlq hk1 hk5 hfz hcl hall hb
          go_wp2_with fail
          go_roundw
          case rel => exact ⟨k + 1, _, by omega, by simp, hnx.out, hb5.out⟩
          case measure => simp [intOf]; omega
      · obtain rfl : k = n := by omega
        replace hI := Lib.hid hI
        replace hb := Lib.hid hb
        go_wp2_with fail
        go_ret
        exact ⟨b0, g, m0, rfl, ⟨qT, dT, d0, qs, hI.out⟩, hg0, h2b, hb.out⟩
end Go.Proofs.YtdmnoogppmckaaaGreat
