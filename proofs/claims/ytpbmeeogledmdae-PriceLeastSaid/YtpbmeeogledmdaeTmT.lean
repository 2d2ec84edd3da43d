/-
  Layer 7, the program's: Times.
-/
import Derived.Test.YtpbmeeogledmdaeTmI
import Derived.Test.YtpbmeeogledmdaeTm
import Derived.Test.YtpbmeeogledmdaeTell
namespace Go.Proofs.Ytpbmeeogledmdae
open Go.RowKit
attribute [local go_sem] Oper.semAt_some

theorem res_cell3 {P : Program} {fn : Func} {p q r : Tmp} {ty tz tw : TypeId} (h : fn.results = #[.cell p ty, .cell q tz, .cell r tw]) {tmps : Array Value} {w : World} {g g' g'' : Nat} {v v' v'' : Value} (hp : tmps.getD p undef = .pointer (some ⟨g, 0, none⟩)) (hq : tmps.getD q undef = .pointer (some ⟨g', 0, none⟩)) (hr : tmps.getD r undef = .pointer (some ⟨g'', 0, none⟩))
    (h1 : (loadVar ty ⟨g, 0, none⟩).run P w = .ok v w) (h2 : (loadVar tz ⟨g', 0, none⟩).run P w = .ok v' w) (h3 : (loadVar tw ⟨g'', 0, none⟩).run P w = .ok v'' w) :
    (results fn tmps).run P w = .ok (.tuple #[v, v', v'']) w := by
  rw [Array.getD_eq_getD_getElem?] at hp hq hr
  simp [results, h, hp, hq, hr, asAddr, Sem.run_bind, h1, h2, h3]
theorem run_cellI {w : World} {g : Nat} {v : Int} (h : w.cell? ⟨g, 0, none⟩ = some (.int .i64 v)) : (loadVar 3 ⟨g, 0, none⟩).run Try.prog w = .ok (.int .i64 v) w := by go_simp
theorem run_cellT {w : World} {g : Nat} {p : Option Addr} {n c : Nat} (h : w.cell? ⟨g, 0, none⟩ = some (.slice p n c)) : (loadVar 40 ⟨g, 0, none⟩).run Try.prog w = .ok (.slice p n c) w := by go_simp
theorem set3 {W : World} {a b d : Nat} {u1 u2 u3 v1 v2 v3 : Value} {t1 t2 t3 : TypeId} (h1 : Blk W a #[u1] t1) (h2 : Blk W b #[u2] t2) (h3 : Blk W d #[u3] t3) (hab : a ≠ b) (had : a ≠ d) (hbd : b ≠ d) :
    Blk (((W.setCell ⟨a, 0, none⟩ v1).setCell ⟨b, 0, none⟩ v2).setCell ⟨d, 0, none⟩ v3) a #[v1] t1 ∧ Blk (((W.setCell ⟨a, 0, none⟩ v1).setCell ⟨b, 0, none⟩ v2).setCell ⟨d, 0, none⟩ v3) b #[v2] t2 ∧ Blk (((W.setCell ⟨a, 0, none⟩ v1).setCell ⟨b, 0, none⟩ v2).setCell ⟨d, 0, none⟩ v3) d #[v3] t3 :=
  ⟨((h1.set 0 v1).other (p := ⟨b, 0, none⟩) hab _).other (p := ⟨d, 0, none⟩) had _, ((h2.other (p := ⟨a, 0, none⟩) hab.symm _).set 0 v2).other (p := ⟨d, 0, none⟩) hbd _, ((h3.other (p := ⟨a, 0, none⟩) had.symm _).other (p := ⟨b, 0, none⟩) hbd.symm _).set 0 v3⟩
theorem below3 {B : Nat} {a W : World} {p q r : Addr} {u v x : Value} (h : Below B a W) (h1 : B ≤ p.block) (h2 : B ≤ q.block) (h3 : B ≤ r.block) : Below B a (((W.setCell p u).setCell q v).setCell r x) := ((h.setCell h1 _).setCell h2 _).setCell h3 _
theorem run_nilP {ρ : Operand → Value} {o : Oper} {w : World} {x : Operand} {p : Addr} (ho : o.op = .nilCheck x) (hx : ρ x = .pointer (some p)) : (execOp ρ o).run Try.prog w = .ok (.value (.pointer (some p))) w := by
  unfold execOp
  simp only [ho, hx]
  go_simp
theorem run_cellPt {w : World} {g h : Nat} (hc : w.cell? ⟨g, 0, none⟩ = some (.pointer (some ⟨h, 0, none⟩))) : (loadVar 83 ⟨g, 0, none⟩).run Try.prog w = .ok (.pointer (some ⟨h, 0, none⟩)) w := by go_simp
theorem run_storeT {ρ : Operand → Value} {o : Oper} {w : World} {x y : Operand} {g : Nat} {q : Option Addr} {m c : Nat} {u : Value} (ho : o.op = .store 40 x y) (hx : ρ x = .pointer (some ⟨g, 0, none⟩)) (hy : ρ y = .slice q m c) (hc : w.cell? ⟨g, 0, none⟩ = some u) (hf : w.frozen? ⟨g, 0, none⟩ = false) :
    (execOp ρ o).run Try.prog w = .ok .skip (w.setCell ⟨g, 0, none⟩ (.slice q m c)) := by
  unfold execOp
  simp only [ho, hx, hy]
  go_simp
theorem run_sliceT {ρ : Operand → Value} {o : Oper} {w : World} {x : Operand} {u : Int × Int × Int} (ho : o.op = .buildSlice 40 1 #[(0, x)]) (hx : ρ x = .agg (tmV u).toArray) :
    (execOp ρ o).run Try.prog w = .ok (.value (.slice (some ⟨w.heap.size, 0, none⟩) 1 1)) (w.alloc (.cells (tmV u).toArray 85)) := by
  unfold execOp
  simp only [ho, hx, List.map_toArray, List.map_cons, List.map_nil, Sem.run_bind, rsl_tm, Sem.run_pure, Result.andThen_ok]
theorem upon_appG {P : Program} {T E : TypeId} {n b : Nat} (hT : ElT P T E n b) {ρ : Operand → Value} {o : Oper} {w : World} {x y : Operand} {R : Value → World → Prop} (base : Nat) (hbase : base ≤ w.heap.size) (v : Value) (m : Nat) (xs : List Value) (ho : o.op = .call { callee := .builtin .append, args := #[x, y], argTypes := #[T, T] })
    (hx : ρ x = v) (hown : w.ownsRow base E n v m xs) (hm : m ≤ 100000) (a : Addr) (k c : Nat) (news : List Value) (hy : ρ y = .slice (some a) k c) (hl : news.length = k * n) (hk : k ≤ 1000) (hc : ∀ j u, news[j]? = some u → w.cell? (a.add j) = some u) (h1 : ∀ u ∈ news, u.oneCell' = true)
    (h : ∀ v' w', w'.ownsRow base E n v' (m + k) (xs ++ news) → w.grownBy w' v.ownBlock → R v' w') : upon2 P R ((execOp ρ o).run P w) := by
  obtain ⟨v', w', h2, h3, h4⟩ := run_appG hT base hbase v m xs ho hx hown hm a k c news hy hl hk hc h1
  rw [h2]
  exact h v' w' h3 h4
/-- where the walk over the parts stands -/
def TmS (w : World) (V : Array Value) (bT base : Nat) (t : List Rq) (R : Option (Tms × Int × Int × Int)) (l : List (Int × Int)) (pre : List (Pt × Bool)) (W : World) : Prop :=
  ∃ (p : Option Addr) (m c : Nat) (L : Tms) (ax ay now ar bg : Int),
    Blk W w.heap.size V 47 ∧ Blk W (w.heap.size + 1) #[.slice p m c] 40 ∧ Blk W (w.heap.size + 2) #[.int .i64 0] 3 ∧ Blk W (w.heap.size + 3) #[.int .i64 0] 41 ∧
    Blk W bT #[.int .i64 ar, .int .i64 bg, .int .i64 now, .int .i64 ax, .int .i64 ay] 87 ∧ Blk W (bT + 1) #[.pointer (some ⟨bT, 0, none⟩)] 83 ∧ Blk W (bT + 2) #[.func (.func 25) #[.pointer (some ⟨bT, 0, none⟩)] #[]] 88 ∧
    W.ownsRow base 85 3 (.slice p m c) L.length (L.map tmV).flatten ∧ Below w.heap.size w W ∧ (0 ≤ now ∧ now ≤ 1050000) ∧ L.length = pre.length ∧ Hid (R = (tmRun t (l.drop pre.length) ax ay now).map fun q => (L ++ q.1, q.2))
theorem tmS_mod {w : World} {V : Array Value} {bT base : Nat} {t : List Rq} {R : Option (Tms × Int × Int × Int)} {l : List (Int × Int)} {pre : List (Pt × Bool)} {A B : World} (h : TmS w V bT base t R l pre A) {S : Nat → Prop} (hm : Mod S A B) (hbT : w.heap.size + 4 ≤ bT) (hS : ∀ k, S k → bT + 3 ≤ k ∧ k < base) : TmS w V bT base t R l pre B := by
  obtain ⟨p, m, c, L, ax, ay, now, ar, bg, h1, h2, h3, h4, h5, h6, h7, h8, h9, h10⟩ := h
  exact ⟨p, m, c, L, ax, ay, now, ar, bg, h1.mod hm (fun s => by have := hS _ s; omega), h2.mod hm (fun s => by have := hS _ s; omega), h3.mod hm (fun s => by have := hS _ s; omega), h4.mod hm (fun s => by have := hS _ s; omega), h5.mod hm (fun s => by have := hS _ s; omega), h6.mod hm (fun s => by have := hS _ s; omega), h7.mod hm (fun s => by have := hS _ s; omega),
    own_mod h8 hm (fun g hg s => by have := hS _ s; have := (own_blk_lt h8 hg).1; omega), h9.trans (hm.below h9.size (fun k s => by have := hS _ s; omega)), h10⟩
/-- it was too late somewhere -/
def TmX (w : World) (R : Option (Tms × Int × Int × Int)) (W : World) : Prop :=
  Blk W (w.heap.size + 1) #[.slice none 0 0] 40 ∧ Blk W (w.heap.size + 2) #[.int .i64 0] 3 ∧ Blk W (w.heap.size + 3) #[.int .i64 9] 41 ∧ Below w.heap.size w W ∧ R = none
theorem tmX_mod {w : World} {R : Option (Tms × Int × Int × Int)} {A B : World} (h : TmX w R A) {S : Nat → Prop} (hm : Mod S A B) (hS : ∀ k, S k → w.heap.size + 4 ≤ k) : TmX w R B :=
  ⟨h.1.mod hm (fun s => by have := hS _ s; omega), h.2.1.mod hm (fun s => by have := hS _ s; omega), h.2.2.1.mod hm (fun s => by have := hS _ s; omega), h.2.2.2.1.trans (hm.below h.2.2.2.1.size (fun k s => by have := hS _ s; omega)), h.2.2.2.2⟩

set_option maxHeartbeats 2000000 in
set_option maxRecDepth 100000 in
theorem times_calls (x y cp st en : Int) (p p' : Option Addr) (c c' : Nat) (l : List (Int × Int)) (t : List Rq) (w : World) (hL : Els w p 2 (l.map stV)) (hT : Els w p' 10 (t.map rqV)) :
    Calls Try.prog 10 #[.agg #[.int .i64 x, .int .i64 y, .int .i64 cp, .int .i64 st, .int .i64 en], .slice p l.length c, .slice p' t.length c'] w (TmPost w (tmP x y cp st en l t)) := by
  have hX : tmP x y cp st en l t = if wrP x y cp st en l t ≠ 0 then ([], 0, wrP x y cp st en l t)
    else match tmRun t l x y st with | none => ([], 0, 9) | some (L, ax, ay, now) => if en < now + dsP ax ay x y then ([], 0, 9) else (L, now + dsP ax ay x y, 0) := rfl
  have hw := Lib.hid (fun wx (h : Below w.heap.size w wx) => swrong_calls x y cp st en p p' c c' l t wx (hL.below h) (hT.below h))
  have hz := Lib.hid (fun h : wrP x y cp st en l t = 0 => wrP_zero h)
  have hit := Lib.hid (fun W b1 b2 hb h1 h2 => parts_iter p p' c c' l t w W b1 b2 hL hT hb h1 h2)
  generalize tmP x y cp st en l t = X at hX ⊢
  generalize wrP x y cp st en l t = wr at hX hw hz
  replace hX := Lib.hid hX
  replace hL := Lib.hid hL
  replace hT := Lib.hid hT
  obtain ⟨V, hV⟩ : ∃ V : Array Value, #[.int .i64 x, .int .i64 y, .int .i64 cp, .int .i64 st, .int .i64 en] = V := ⟨_, rfl⟩
  have g0 : V[0]? = some (.int .i64 x) := by rw [← hV]; rfl
  have g1 : V[1]? = some (.int .i64 y) := by rw [← hV]; rfl
  have g3 : V[3]? = some (.int .i64 st) := by rw [← hV]; rfl
  have g4 : V[4]? = some (.int .i64 en) := by rw [← hV]; rfl
  have hsV : V.size = 5 := by rw [← hV]; rfl
  have hlv := Lib.hid (fun wx (h : Blk wx w.heap.size V 47) => run_load_row' (P := Try.prog) wx w.heap.size 47 V 47 _ h Try.underlying47 rfl (by rw [hsV]; kernel_rfl))
  rw [hV] at hw ⊢
  clear hV hsV
  refine calls_of_all fun n => ?_
  refine callsIn_of_wp_marks Try.func10 rfl trivial ?_ rfl
  simp only [Try.ntmps10, List.size_toArray, List.length_cons, List.length_nil, Nat.reduceAdd, Nat.reduceSub, Array.replicate_succ, Array.replicate_zero, List.push_toArray, List.append_toArray, List.nil_append, List.cons_append]
  refine wpIn_wide.2 ?_
  go_upto_region 1 with fail
  refine wp_world' (fun wx => Blk wx w.heap.size V 47 ∧ Blk wx (w.heap.size + 1) #[.slice none 0 0] 40 ∧ Blk wx (w.heap.size + 2) #[.int .i64 0] 3 ∧ Blk wx (w.heap.size + 3) #[.int .i64 0] 41 ∧ Below w.heap.size w wx)
    ⟨(((Blk.new _ _ _).alloc _).alloc _).alloc _, ((Blk.new' _ _ _ _).alloc _).alloc _, (blk_new3 _ _ _ _ _).alloc _, by have := blk_new3 (w.alloc (.cells V 47)) (.cells #[.slice none 0 0] 40) (.cells #[.int .i64 0] 3) #[.int .i64 0] 41; simpa [Nat.add_assoc] using this,
      ((((new_below _ _).alloc (by simp) _).alloc (by simp; omega) _).alloc (by simp; omega) _)⟩ ?_
  rintro w1 ⟨hB, hR1, hR2, hR3, hb⟩
  have hlv1 := Lib.hid (hlv.out _ hB)
  go_wp2_with (refine wpList_load_v rfl 47 _ rfl ⟨w.heap.size, 0, none⟩ rfl _ hlv1.out ?_)
  refine (hw.out _ hb).mono ?_
  rintro e w2 ⟨rfl, hb2⟩
  have hM : Mod (fun _ => False) w1 w2 := (Mod.refl _ _).after hb2
  replace hB := hB.mod hM (fun h => h)
  replace hR1 := hR1.mod hM (fun h => h)
  replace hR2 := hR2.mod hM (fun h => h)
  replace hR3 := hR3.mod hM (fun h => h)
  replace hb := hb.trans (hb2.mono hb.size)
  clear hb2 hM hw hlv hlv1
  have hlt3 := hR3.lt
  by_cases v0 : wr = 0
  · subst v0
    obtain ⟨z1, z2, z3, z4⟩ := hz.out rfl
    have hl16 := chkP_len z3
    obtain ⟨_, _, q1, q2, q3⟩ := vehCode_zero z1
    replace z2 := Lib.hid z2
    replace z4 := Lib.hid z4
    have hX2 : Hid (X = match tmRun t l x y st with | none => ([], 0, 9) | some (L, ax, ay, now) => if en < now + dsP ax ay x y then ([], 0, 9) else (L, now + dsP ax ay x y, 0)) := Lib.hid (hX.out.trans (if_neg (by simp)))
    clear hX hz z1 z3
    have k3 := hB.cell g3
    have k0 := hB.cell g0
    have k1 := hB.cell g1
    have HB := Lib.hid hB
    have HR1 := Lib.hid hR1
    have HR2 := Lib.hid hR2
    have HR3 := Lib.hid hR3
    have hlt2 := hb.size
    clear hB hR1 hR2 hR3
    go_upto_region 6 with fail
    generalize hbT : w2.heap.size = bT at hlt3 hlt2 ⊢
    refine wp_world' (fun wx => Blk wx w.heap.size V 47 ∧ Blk wx (w.heap.size + 1) #[.slice none 0 0] 40 ∧ Blk wx (w.heap.size + 2) #[.int .i64 0] 3 ∧ Blk wx (w.heap.size + 3) #[.int .i64 0] 41 ∧
        Blk wx bT #[.int .i64 0, .int .i64 0, .int .i64 st, .int .i64 x, .int .i64 y] 87 ∧ Blk wx (bT + 1) #[.pointer (some ⟨bT, 0, none⟩)] 83 ∧ Blk wx (bT + 2) #[.func (.func 25) #[.pointer (some ⟨bT, 0, none⟩)] #[]] 88 ∧ Below w.heap.size w wx ∧ wx.heap.size = bT + 3)
      ⟨((HB.out.alloc _).alloc _).alloc _, ((HR1.out.alloc _).alloc _).alloc _, ((HR2.out.alloc _).alloc _).alloc _, ((HR3.out.alloc _).alloc _).alloc _, by rw [← hbT]; exact ((Blk.new _ _ _).alloc _).alloc _, by rw [← hbT]; exact (Blk.new' _ _ _ _).alloc _, by rw [← hbT]; exact blk_new3 _ _ _ _ _,
        ((hb.alloc hb.size _).alloc (by have := hb.size; simp; omega) _).alloc (by have := hb.size; simp; omega) _, by simp; omega⟩ ?_
    clear HB HR1 HR2 HR3 hb k0 k1 k3 hbT
    rintro w3 ⟨HB, HR1, HR2, HR3, HT, HP, HF, hb, hz3⟩
    replace hz3 := Lib.hid hz3
    go_wp2_with fail
    refine (parts_calls _ _ _ _ _ _ _).mono ?_
    rintro e w4 ⟨rfl, rfl⟩
    go_wp2_with fail
    obtain ⟨W0, hW0⟩ : ∃ W0, (w3.alloc (.cells #[.slice p l.length c] 48)).alloc (.cells #[.slice p' t.length c'] 30) = W0 := ⟨_, rfl⟩
    have hz : W0.heap.size = bT + 5 := by rw [← hW0]; simp; have := hz3.out; omega
    have hb0 : Below w.heap.size w W0 := by rw [← hW0]; exact (hb.alloc hb.size _).alloc (by have := hb.size; simp; omega) _
    have k1 : W0.cell? ⟨w3.heap.size, 0, none⟩ = some (.slice p l.length c) := by rw [← hW0]; exact cellA _ (cellN w3 _ _).1
    have k2 : W0.cell? ⟨w3.heap.size + 1, 0, none⟩ = some (.slice p' t.length c') := by
      rw [← hW0]
      have := (cellN (w3.alloc (.cells #[.slice p l.length c] 48)) (.slice p' t.length c') 30).1
      simp
    rw [hW0]
    have hS : Blk W0 w.heap.size V 47 ∧ Blk W0 (w.heap.size + 1) #[.slice none 0 0] 40 ∧ Blk W0 (w.heap.size + 2) #[.int .i64 0] 3 ∧ Blk W0 (w.heap.size + 3) #[.int .i64 0] 41 ∧
        Blk W0 bT #[.int .i64 0, .int .i64 0, .int .i64 st, .int .i64 x, .int .i64 y] 87 ∧ Blk W0 (bT + 1) #[.pointer (some ⟨bT, 0, none⟩)] 83 ∧ Blk W0 (bT + 2) #[.func (.func 25) #[.pointer (some ⟨bT, 0, none⟩)] #[]] 88 := by
      rw [← hW0]
      exact ⟨(HB.alloc _).alloc _, (HR1.alloc _).alloc _, (HR2.alloc _).alloc _, (HR3.alloc _).alloc _, (HT.alloc _).alloc _, (HP.alloc _).alloc _, (HF.alloc _).alloc _⟩
    rw [hz3.out] at k1 k2 ⊢
    clear hW0 HB HR1 HR2 HR3 HT HP HF hb
    refine (wpIn_wide (n := n)).1 ?_
    refine wp_rangeIter (gf := 48) (lb := #[.pointer (some ⟨bT + 3, 0, none⟩), .pointer (some ⟨bT + 3 + 1, 0, none⟩)]) rfl (enters_of Try.func48 (by kernel_rfl) rfl)
      (encs := fun x : Pt × Bool => #[.agg x.1.row, .bool x.2]) (fun _ => rfl) (S := fun _ => False) (Dt := fun k => k < w.heap.size ∨ k = bT + 3 ∨ k = bT + 3 + 1) (xs := l.map fun s => (ptG s t, ptB s t))
      (fun o o' => hit.out _ (bT + 3) (bT + 3 + 1) ((hb0.alloc hb0.size _).alloc (by have := hb0.size; simp; omega) _) (cellA _ (cellA _ k1)) (cellA _ (cellA _ k2)))
      ⟨fun h => h, fun h => h⟩ (by have := hb0.size; omega)
      (fun pre W => TmS w V bT (W0.heap.size + 2) t (tmRun t l x y st) l pre W)
      (fun c pre W => c = .ret ∧ TmX w (tmRun t l x y st) W)
      ?hI ?hIx ?h0 ?hround ?hdone ?hstop
    case h0 =>
      exact ⟨none, 0, 0, [], x, y, st, 0, 0, hS.1, hS.2.1, hS.2.2.1, hS.2.2.2.1, hS.2.2.2.2.1, hS.2.2.2.2.2.1, hS.2.2.2.2.2.2, World.ownsRow_nil _ _ _ _, hb0, by omega, rfl, Lib.hid (by rw [List.length_nil, List.drop_zero]; cases tmRun t l x y st <;> rfl)⟩
    case hI => exact fun pre A B h hm => tmS_mod h hm (by omega) (fun k hk => by rcases hk with h | h; exact h.elim; omega)
    case hIx => exact fun c pre A B h hm => ⟨h.1, tmX_mod h.2 hm (fun k hk => by rcases hk with h | h; exact h.elim; omega)⟩
    case hround =>
      rintro pre ⟨g, b⟩ rest W hx hSW hlt ⟨q, m, cq, L, ax, ay, now, ar, bg, hV, hR1, hR2, hR3, hT, hP, hF, hO, hB, hnow, hLk, hR⟩
      have hk : pre.length < l.length := by have := congrArg List.length hx; simp at this; omega
      have hgb : (ptG l[pre.length] t, ptB l[pre.length] t) = (g, b) := by
        have := congrArg (fun z => z[pre.length]?) hx
        simpa [hk] using this
      have hptb := z4.out _ (List.getElem_mem hk)
      obtain ⟨n', hn1, hn2, hn3⟩ := pt_there hptb
      have hsv := rqE_serve (z2.out _ (List.getElem_mem hn2))
      rw [← hn3] at hsv
      have hg := (Prod.mk.inj hgb).1
      have hR2' := hR.out
      rw [List.drop_eq_getElem_cons hk, tmRun_cons] at hR2'
      rw [hg] at hsv hR2'
      have hds := dsP_bd ax ay g.x g.y
      have s1 : IntKind.i64.wrap (now + dsP ax ay g.x g.y) = now + dsP ax ay g.x g.y := IntWalk.i64_in _ (by omega)
      have hwb : 0 ≤ waN g.e g.l (now + dsP ax ay g.x g.y) ∧ waN g.e g.l (now + dsP ax ay g.x g.y) ≤ 1048576 := by
        cases h : waB g.e g.l (now + dsP ax ay g.x g.y) with
        | true => exact waN_bd h
        | false => unfold waN; rw [h]; simp
      have s2 : IntKind.i64.wrap (waN g.e g.l (now + dsP ax ay g.x g.y) + g.s) = waN g.e g.l (now + dsP ax ay g.x g.y) + g.s := IntWalk.i64_in _ (by omega)
      have hnc := Lib.hid (fun wx (h : Blk wx bT #[.int .i64 ar, .int .i64 bg, .int .i64 now, .int .i64 ax, .int .i64 ay] 87) => next_calls bT ar bg now ax ay g wx h s1 s2)
      generalize dsP ax ay g.x g.y = d at hR2' hds hnc hwb s1 s2
      generalize waB g.e g.l (now + d) = wb at hR2' hnc
      generalize waN g.e g.l (now + d) = wn at hR2' hnc hwb s2
      replace hR2' := Lib.hid hR2'
      clear hR hgb hptb hn1 hn2 hn3 hg n' hSW
      gi_wp2_with (refine wpListIn_store_new (fun _ => trivial) rfl rfl 93 _ _ rfl rfl rfl _ g.row _ rfl rfl (pt_one _) (pt_size _) ?_)
      refine ⟨(Mod.refl _ _).alloc _, fun W2 hm => ?_⟩
      have hQ2 := (Blk.new W g.row 93).mod hm (by omega)
      have hM2 : Mod (fun k => k = W0.heap.size + 1) W W2 := ((Mod.refl _ W).alloc _).trans hm
      replace hV := hV.mod hM2 (by omega)
      replace hR1 := hR1.mod hM2 (by omega)
      replace hR2 := hR2.mod hM2 (by omega)
      replace hR3 := hR3.mod hM2 (by omega)
      replace hT := hT.mod hM2 (by omega)
      replace hP := hP.mod hM2 (by omega)
      replace hF := hF.mod hM2 (by omega)
      replace hO := own_mod hO hM2 (fun g hg s => by have := (own_blk_lt hO hg).1; omega)
      replace hB := hB.trans (hM2.below hB.size (fun k s => by have := hb0.size; omega))
      have hsz2 := hM2.size
      have hlQ := Lib.hid (run_load_row' (P := Try.prog) W2 W.heap.size 93 g.row 93 _ hQ2 Try.underlying93 rfl (pt_size _))
      have kF : W2.cell? ⟨bT + 1 + 1, 0, none⟩ = some (.func (.func 25) #[.pointer (some ⟨bT, 0, none⟩)] #[]) := hF.cell (i := 0) rfl
      clear hm hM2 hQ2
      replace hV := Lib.hid hV
      replace hR1 := Lib.hid hR1
      replace hR2 := Lib.hid hR2
      replace hR3 := Lib.hid hR3
      replace hP := Lib.hid hP
      replace hF := Lib.hid hF
      replace hO := Lib.hid hO
      replace hB := Lib.hid hB
      gi_wp2_with (first | (refine wpListIn_load_v (fun _ => trivial) rfl rfl 93 _ rfl ⟨W.heap.size, 0, none⟩ rfl _ hlQ.out ?_))
      refine callR (hnc.out _ hT) ?_
      rintro e W3 ⟨rfl, hm3, hT3⟩
      have hTk : ∀ k, w.heap.size ≤ k → k < bT + 3 → (¬ False ∧ ¬ (k < w.heap.size ∨ k = bT + 3 ∨ k = bT + 3 + 1) ∧ k ≠ W0.heap.size ∧ k ≠ W0.heap.size + 1) := fun k h1 h2 => ⟨fun h => h, by omega, by omega, by omega⟩
      have hMT : Mod (fun k => ¬ False ∧ ¬ (k < w.heap.size ∨ k = bT + 3 ∨ k = bT + 3 + 1) ∧ k ≠ W0.heap.size ∧ k ≠ W0.heap.size + 1) W2 W3 := hm3.mono (fun k _ e => by subst e; exact ⟨fun h => h, by omega, by omega, by omega⟩)
      replace hV := Lib.hid (hV.out.mod hm3 (by omega))
      have HR1 := hR1.out.mod hm3 (by omega)
      have HR2 := hR2.out.mod hm3 (by omega)
      have HR3 := hR3.out.mod hm3 (by omega)
      replace hP := Lib.hid (hP.out.mod hm3 (by omega))
      replace hF := Lib.hid (hF.out.mod hm3 (by omega))
      replace hO := Lib.hid (own_mod hO.out hm3 (fun g hg s => by have := (own_blk_lt hO.out hg).1; omega))
      replace hB := Lib.hid (hB.out.trans (hm3.below hB.out.size (fun k s => by omega)))
      replace hMT := Lib.hid hMT
      clear hR1 hR2 hR3 hT hm3 hlQ kF hnc
      have c1 : W3.cell? ⟨w.heap.size + 1, 0, none⟩ = some (.slice q m cq) := HR1.cell (i := 0) rfl
      have f1 := HR1.froz 0
      cases wb with
      | false =>
        have hRN : tmRun t l x y st = none := by
          have := hR2'.out
          rw [if_neg (by simp)] at this
          exact this
        obtain ⟨e1, e2, e3⟩ := set3 (v1 := .slice none 0 0) (v2 := .int .i64 0) (v3 := .int .i64 9) HR1 HR2 HR3 (by omega) (by omega) (by omega)
        have E1 := Lib.hid e1
        have E2 := Lib.hid e2
        have E3 := Lib.hid e3
        have c2 : W3.cell? ⟨w.heap.size + 1 + 1, 0, none⟩ = some (.int .i64 0) := HR2.cell (i := 0) rfl
        have c3 : W3.cell? ⟨w.heap.size + 1 + 1 + 1, 0, none⟩ = some (.int .i64 0) := HR3.cell (i := 0) rfl
        have f2 : W3.frozen? ⟨w.heap.size + 1 + 1, 0, none⟩ = false := HR2.froz 0
        have f3 : W3.frozen? ⟨w.heap.size + 1 + 1 + 1, 0, none⟩ = false := HR3.froz 0
        have HB := Lib.hid (below3 (p := ⟨w.heap.size + 1, 0, none⟩) (q := ⟨w.heap.size + 2, 0, none⟩) (r := ⟨w.heap.size + 3, 0, none⟩) (u := .slice none 0 0) (v := .int .i64 0) (x := .int .i64 9) hB.out (by simp) (by simp) (by simp))
        have HM := Lib.hid (((hMT.out.setCell (p := ⟨w.heap.size + 1, 0, none⟩) (fun _ => hTk (w.heap.size + 1) (by omega) (by omega)) (.slice none 0 0)).setCell (p := ⟨w.heap.size + 2, 0, none⟩) (fun _ => hTk (w.heap.size + 2) (by omega) (by omega)) (.int .i64 0)).setCell (p := ⟨w.heap.size + 3, 0, none⟩) (fun _ => hTk (w.heap.size + 3) (by omega) (by omega)) (.int .i64 9))
        clear e1 e2 e3 HR1 HR2 HR3 hR2' hT3
        gi_wp2
        exact ⟨HM.out, rfl, E1.out, E2.out, E3.out, HB.out, hRN⟩
      | true =>
        have hR3' : Hid (tmRun t l x y st = (tmRun t (l.drop (pre.length + 1)) g.x g.y (wn + g.s)).map fun q => ((L ++ [(now + d, wn, wn + g.s)]) ++ q.1, q.2)) := Lib.hid (by
          have := hR2'.out
          rw [if_pos rfl, Option.map_map] at this
          rw [this]
          congr 1
          funext q
          simp)
        clear hR2'
        gi_wp2_with fail
        have hsz3 := HR3.lt
        have hT3' : Blk W3 bT (#[.int .i64 (now + d), .int .i64 wn, .int .i64 (wn + g.s), .int .i64 g.x, .int .i64 g.y] : Array Value) 87 := hT3
        have hLD := Lib.hid ((load_part (P := Try.prog) W3.drew bT #[.int .i64 (now + d), .int .i64 wn, .int .i64 (wn + g.s), .int .i64 g.x, .int .i64 g.y] 87 hT3'.drew 0 3 (by simp) 85 _ Try.underlying85 rfl (by kernel_rfl)))
        have hP1 := hP.out.drew.cell (i := 0) rfl
        have hOA := Lib.hid (own_mod hO.out (((Mod.refl (fun _ => False) W3).drew).alloc (.cells (tmV (now + d, wn, wn + g.s)).toArray 85)) (fun _ _ h => h))
        have hsA : Hid (W0.heap.size + 2 ≤ (W3.drew.alloc (.cells (tmV (now + d, wn, wn + g.s)).toArray 85)).heap.size) := Lib.hid (by show _ ≤ (W3.heap.push _).size; have := hMT.out.size; simp; omega)
        have hlt3 : w.heap.size + 1 < W3.heap.size := HR1.lt
        refine wpIn_region_tell (X := Value) undef [5, 6, 7] (fun x => [(38, .slice q m cq), (39, .pointer (some ⟨bT, 0, none⟩)), (40, .pointer (some ⟨bT, 0, none⟩)), (41, .pointer (some ⟨bT, 0, none⟩)), (42, .agg (tmV (now + d, wn, wn + g.s)).toArray), (43, .slice (some ⟨W3.heap.size, 0, none⟩) 1 1)] ++ [(44, x)])
          (fun x k W' => (k = 0 ∧ W' = W3.drew) ∨ (k = 1 ∧ W' = W3.drew.alloc (.cells (tmV (now + d, wn, wn + g.s)).toArray 85)) ∨
            ∃ W4, W4.ownsRow (W0.heap.size + 2) 85 3 x (L.length + 1) ((L.map tmV).flatten ++ tmV (now + d, wn, wn + g.s)) ∧ (W3.drew.alloc (.cells (tmV (now + d, wn, wn + g.s)).toArray 85)).grownBy W4 (Value.slice q m cq).ownBlock ∧
              (k = 2 ∧ W' = W4 ∨ k = 3 ∧ W' = W4.setCell ⟨w.heap.size + 1, 0, none⟩ x))
          (by kernel_rfl) (by kernel_rfl) (by kernel_rfl) (by kernel_rfl) (by kernel_rfl) (by kernel_rfl) (fun x => by kernel_rfl) (.inl ⟨rfl, rfl⟩) ?_ ?_
        · intro aF hAF
          have E6 : ∀ x, (aF x).eval (.tmp 6) = .pointer (some ⟨w.heap.size + 1, 0, none⟩) := by intro x; rw [hAF]; kernel_rfl
          have E10 : ∀ x, (aF x).eval (.tmp 10) = .pointer (some ⟨bT + 1, 0, none⟩) := by intro x; rw [hAF]; kernel_rfl
          have T38 : ∀ x, (aF x).tmps[38]? = some (.slice q m cq) := by intro x; rw [hAF]; kernel_rfl
          have E38 : ∀ x, (aF x).eval (.tmp 38) = .slice q m cq := by intro x; rw [hAF]; kernel_rfl
          have T39 : ∀ x, (aF x).tmps[39]? = some (.pointer (some ⟨bT, 0, none⟩)) := by intro x; rw [hAF]; kernel_rfl
          have E39 : ∀ x, (aF x).eval (.tmp 39) = .pointer (some ⟨bT, 0, none⟩) := by intro x; rw [hAF]; kernel_rfl
          have T40 : ∀ x, (aF x).tmps[40]? = some (.pointer (some ⟨bT, 0, none⟩)) := by intro x; rw [hAF]; kernel_rfl
          have E40 : ∀ x, (aF x).eval (.tmp 40) = .pointer (some ⟨bT, 0, none⟩) := by intro x; rw [hAF]; kernel_rfl
          have T41 : ∀ x, (aF x).tmps[41]? = some (.pointer (some ⟨bT, 0, none⟩)) := by intro x; rw [hAF]; kernel_rfl
          have E41 : ∀ x, (aF x).eval (.tmp 41) = .pointer (some ⟨bT, 0, none⟩) := by intro x; rw [hAF]; kernel_rfl
          have T42 : ∀ x, (aF x).tmps[42]? = some (.agg (tmV (now + d, wn, wn + g.s)).toArray) := by intro x; rw [hAF]; kernel_rfl
          have E42 : ∀ x, (aF x).eval (.tmp 42) = .agg (tmV (now + d, wn, wn + g.s)).toArray := by intro x; rw [hAF]; kernel_rfl
          have T43 : ∀ x, (aF x).tmps[43]? = some (.slice (some ⟨W3.heap.size, 0, none⟩) 1 1) := by intro x; rw [hAF]; kernel_rfl
          have E43 : ∀ x, (aF x).eval (.tmp 43) = .slice (some ⟨W3.heap.size, 0, none⟩) 1 1 := by intro x; rw [hAF]; kernel_rfl
          have T44 : ∀ x, (aF x).tmps[44]? = some x := by intro x; rw [hAF]; kernel_rfl
          have E44 : ∀ x, (aF x).eval (.tmp 44) = x := by intro x; rw [hAF]; kernel_rfl
          replace hAF := Lib.hid hAF
          have hd0 : ∀ (x : Value) (k : Nat) (W' : World), k ≤ 0 → ((k = 0 ∧ W' = W3.drew) ∨ (k = 1 ∧ W' = W3.drew.alloc (.cells (tmV (now + d, wn, wn + g.s)).toArray 85)) ∨
            ∃ W4, W4.ownsRow (W0.heap.size + 2) 85 3 x (L.length + 1) ((L.map tmV).flatten ++ tmV (now + d, wn, wn + g.s)) ∧ (W3.drew.alloc (.cells (tmV (now + d, wn, wn + g.s)).toArray 85)).grownBy W4 (Value.slice q m cq).ownBlock ∧
              (k = 2 ∧ W' = W4 ∨ k = 3 ∧ W' = W4.setCell ⟨w.heap.size + 1, 0, none⟩ x)) → W' = W3.drew := by
            rintro x k W' hk (⟨_, h⟩ | ⟨h, _⟩ | ⟨W4, _, _, ⟨h, _⟩ | ⟨h, _⟩⟩)
            · exact h
            all_goals omega
          refine ⟨?_, ?_, ?_, ?_, ?_, ?_, ?_, ?_, trivial⟩
          · exact opOk2_ahead 1 _ (by intro x d hd _; cases hd; exact T38 x) (fun _ => rfl) (by decide) (by kernel_rfl) (by kernel_rfl) fun x k W' hk hc => sv (run_load1 rfl (E6 x) (run_cellT (by
              rcases hc with ⟨_, rfl⟩ | ⟨_, rfl⟩ | ⟨W4, _, _, ⟨h, _⟩ | ⟨h, _⟩⟩
              · exact HR1.drew.cell (i := 0) rfl
              · exact (HR1.drew.alloc _).cell (i := 0) rfl
              · omega
              · omega))) hc
          · exact opOk2_ahead 0 _ (by intro x d hd _; cases hd; exact T39 x) (fun _ => rfl) (by decide) (by kernel_rfl) (by kernel_rfl) fun x k W' hk hc => sv (run_load1 rfl (E10 x) (run_cellPt (by rw [hd0 x k W' hk hc]; exact hP1))) hc
          · exact opOk2_quiet _ (by intro x d hd _; cases hd; exact T40 x) (fun _ => rfl) (by decide) fun x k W' hc => sv (run_nilP rfl (E39 x)) hc
          · exact opOk2_quiet _ (by intro x d hd _; cases hd; exact T41 x) (fun _ => rfl) (by decide) fun x k W' hc => sv (run_fldT rfl (E40 x) (fun w => by kernel_rfl)) hc
          · exact opOk2_ahead 0 _ (by intro x d hd _; cases hd; exact T42 x) (fun _ => rfl) (by decide) (by kernel_rfl) (by kernel_rfl) fun x k W' hk hc => sv (run_load1 rfl (E41 x) (by rw [hd0 x k W' hk hc]; exact hLD.out)) hc
          · exact opOk2_chain 0 rfl rfl (by decide) fun x W' hc => by
              obtain rfl := hd0 x 0 W' (Nat.le_refl _) hc
              rw [run_sliceT rfl (E42 x)]
              exact ⟨x, agree_same _ _, (by intro d hd _; cases hd; exact T43 _), .inr (.inl ⟨rfl, rfl⟩)⟩
          · exact opOk2_chain 1 rfl rfl (by decide) fun x W' hc => by
              obtain rfl : W' = W3.drew.alloc (.cells (tmV (now + d, wn, wn + g.s)).toArray 85) := by
                rcases hc with ⟨h, _⟩ | ⟨_, h⟩ | ⟨W4, _, _, ⟨h, _⟩ | ⟨h, _⟩⟩
                · omega
                · exact h
                all_goals omega
              refine upon_appG tm_el (W0.heap.size + 2) hsA.out (.slice q m cq) L.length _ rfl (E38 x) hOA.out (by omega) ⟨W3.heap.size, 0, none⟩ 1 1 (tmV (now + d, wn, wn + g.s)) (E43 x) rfl (by omega) (row_cells (Blk.new W3.drew _ _)) (tm_one _) fun v' w' h3 h4 => ?_
              exact ⟨v', (by rw [hAF.out]; exact agree_any (by kernel_rfl) (by kernel_rfl)), (by intro d hd _; cases hd; exact T44 _), .inr (.inr ⟨w', h3, h4, .inl ⟨rfl, rfl⟩⟩)⟩
          · exact opOk2_chain 2 rfl rfl (by decide) fun x W' hc => by
              rcases hc with ⟨h, _⟩ | ⟨h, _⟩ | ⟨W4, h3, h4, ⟨_, rfl⟩ | ⟨h, _⟩⟩
              · omega
              · omega
              · obtain ⟨p2, m2, c2, e⟩ := own_isS h3
                have hc4 := grown_blk (HR1.drew.alloc _) hOA.out (by omega) h4
                rw [run_storeT rfl (E6 x) ((E44 x).trans e) (hc4.cell (i := 0) rfl) (hc4.froz 0), ← e]
                exact ⟨x, agree_same _ _, (by intro d hd; cases hd), .inr (.inr ⟨W', h3, h4, .inr ⟨rfl, rfl⟩⟩)⟩
              · omega
        · intro x W5 hc
          simp only [putAll, List.foldl_cons, List.foldl_nil, List.cons_append, List.nil_append, Act.put, List.setIfInBounds_toArray, List.set_cons_succ, List.set_cons_zero]
          obtain ⟨W4, h3, h4, rfl⟩ : ∃ W4, W4.ownsRow (W0.heap.size + 2) 85 3 x (L.length + 1) ((L.map tmV).flatten ++ tmV (now + d, wn, wn + g.s)) ∧ (W3.drew.alloc (.cells (tmV (now + d, wn, wn + g.s)).toArray 85)).grownBy W4 (Value.slice q m cq).ownBlock ∧ W5 = W4.setCell ⟨w.heap.size + 1, 0, none⟩ x := by
            rcases hc with ⟨h, _⟩ | ⟨h, _⟩ | ⟨W4, h3, h4, ⟨h, _⟩ | ⟨_, h⟩⟩
            · simp at h
            · simp at h
            · simp at h
            · exact ⟨W4, h3, h4, h⟩
          obtain ⟨p2, m2, c2, rfl⟩ := own_isS h3
          have hg1 := Lib.hid ((grown_blk (HR1.drew.alloc _) hOA.out (by omega) h4).set 0 (.slice p2 m2 c2))
          have hg2 := Lib.hid ((grown_blk (HR2.drew.alloc _) hOA.out (by omega) h4).other (p := ⟨w.heap.size + 1, 0, none⟩) (show w.heap.size + 2 ≠ w.heap.size + 1 by omega) (.slice p2 m2 c2))
          have hg3 := Lib.hid ((grown_blk (HR3.drew.alloc _) hOA.out (by omega) h4).other (p := ⟨w.heap.size + 1, 0, none⟩) (show w.heap.size + 3 ≠ w.heap.size + 1 by omega) (.slice p2 m2 c2))
          have hgV := Lib.hid ((grown_blk (hV.out.drew.alloc _) hOA.out (by omega) h4).other (p := ⟨w.heap.size + 1, 0, none⟩) (show w.heap.size ≠ w.heap.size + 1 by omega) (.slice p2 m2 c2))
          have hgT := Lib.hid ((grown_blk (hT3.drew.alloc _) hOA.out (by omega) h4).other (p := ⟨w.heap.size + 1, 0, none⟩) (show bT ≠ w.heap.size + 1 by omega) (.slice p2 m2 c2))
          have hgP := Lib.hid ((grown_blk (hP.out.drew.alloc _) hOA.out (by omega) h4).other (p := ⟨w.heap.size + 1, 0, none⟩) (show bT + 1 ≠ w.heap.size + 1 by omega) (.slice p2 m2 c2))
          have hgF := Lib.hid ((grown_blk (hF.out.drew.alloc _) hOA.out (by omega) h4).other (p := ⟨w.heap.size + 1, 0, none⟩) (show bT + 2 ≠ w.heap.size + 1 by omega) (.slice p2 m2 c2))
          have hgO := Lib.hid (own_mod h3 ((Mod.refl (· = w.heap.size + 1) W4).setCell (p := ⟨w.heap.size + 1, 0, none⟩) (fun _ => rfl) (.slice p2 m2 c2)) (fun g hg e => by have := (own_blk_lt h3 hg).1; omega))
          have hgB := Lib.hid ((grown_low (B := w.heap.size) (hB.out.trans ((((Mod.refl (fun _ => False) W3).drew).alloc (.cells (tmV (now + d, wn, wn + g.s)).toArray 85)).below hB.out.size (fun _ h => h.elim))) (by omega) (Nat.le_refl _) hOA.out h4).setCell (p := ⟨w.heap.size + 1, 0, none⟩) (by simp) (.slice p2 m2 c2))
          have hgM := Lib.hid (((hMT.out.drew.alloc _).grown h4 (fun k hk _ => by have := (own_blk_lt hO.out hk).1; exact ⟨fun h => h, by omega, by omega, by omega⟩)).setCell (p := ⟨w.heap.size + 1, 0, none⟩) (fun _ => hTk (w.heap.size + 1) (by omega) (by omega)) (.slice p2 m2 c2))
          clear h3 h4 hc HR1 HR2 HR3 hV hT3 hT3' hP hF hO hB hMT hOA hsA hLD hP1 c1 f1
          gi_wp2
          refine ⟨hgM.out, p2, m2, c2, L ++ [(now + d, wn, wn + g.s)], g.x, g.y, wn + g.s, now + d, wn, hgV.out, hg1.out, hg2.out, hg3.out, hgT.out, hgP.out, hgF.out, ?_, hgB.out, by omega, by simp; omega, Lib.hid (by rw [hR3'.out]; simp)⟩
          rw [List.map_append, List.flatten_append, List.length_append]
          simpa using hgO.out
    case hstop =>
      rintro c0 pre x0 rest W hx ⟨rfl, e1, e2, e3, hB, hR⟩ hD hlt
      have hX3 : X = ([], 0, 9) := by rw [hX2.out, hR]
      subst hX3
      clear hX2
      refine wpIn_wide.2 ?_
      go_wp2
      refine ⟨by simp, .inl ⟨_, _, rfl, run_takeDeferred hD, ?_⟩⟩
      have hk : ∀ (b : Nat) (v : Value) (ty : TypeId), b < W0.heap.size → Blk W b #[v] ty → (W.putObj W0.heap.size (.deferred none)).cell? ⟨b, 0, none⟩ = some v := fun b v ty hb h => (putObj_cell (by show b ≠ _; omega)).trans (h.cell (i := 0) rfl)
      exact ⟨_, res_cell3 Try.results10 rfl rfl rfl (run_cellT (hk _ _ _ (by omega) e1)) (run_cellI (hk _ _ _ (by omega) e2)) (run_cellE (hk _ _ _ (by omega) e3)), tm_none rfl (below_putObj hB (by omega) _)⟩
    case hdone =>
      rintro W ⟨q, m, cq, L, ax, ay, now, ar, bg, hV, hR1, hR2, hR3, hT, hP, hF, hO, hB, hnow, hLk, hR⟩ hD hlt
      rw [List.length_map, List.drop_length] at hR
      rw [List.length_map] at hLk
      have hR2' : tmRun t l x y st = some (L, ax, ay, now) := by
        rw [hR.out]
        simp [tmRun]
      have hX3 : Hid (X = if en < now + dsP ax ay x y then ([], 0, 9) else (L, now + dsP ax ay x y, 0)) := Lib.hid (by rw [hX2.out, hR2'])
      have hds := dsP_bd ax ay x y
      have hdc := Lib.hid (fun w => dist_calls ax ay x y w)
      generalize dsP ax ay x y = d at hX3 hds hdc
      have s1 : IntKind.i64.wrap (now + d) = now + d := IntWalk.i64_in _ (by omega)
      clear hR hR2' hX2 hS k1 k2 hit
      have p0 : ∀ x : Later (fun _ => False) W, x.val.cell? ⟨bT + 1, 0, none⟩ = some (.pointer (some ⟨bT, 0, none⟩)) := fun x => x.cell (hP.cell (i := 0) rfl) (fun h => h)
      have b2 : ∀ x : Later (fun _ => False) W, x.val.cell? ⟨bT, 2, none⟩ = some (.int .i64 now) := fun x => x.cell (hT.cell (i := 2) rfl) (fun h => h)
      have b3 : ∀ x : Later (fun _ => False) W, x.val.cell? ⟨bT, 3, none⟩ = some (.int .i64 ax) := fun x => x.cell (hT.cell (i := 3) rfl) (fun h => h)
      have b4 : ∀ x : Later (fun _ => False) W, x.val.cell? ⟨bT, 4, none⟩ = some (.int .i64 ay) := fun x => x.cell (hT.cell (i := 4) rfl) (fun h => h)
      have v0 : ∀ y : Later (fun _ => False) W, y.val.cell? ⟨w.heap.size, 0, none⟩ = some (.int .i64 x) := fun y => y.cell (hV.cell g0) (fun h => h)
      have v1 : ∀ z : Later (fun _ => False) W, z.val.cell? ⟨w.heap.size, 1, none⟩ = some (.int .i64 y) := fun z => z.cell (hV.cell g1) (fun h => h)
      replace hV := Lib.hid hV
      replace hR1 := Lib.hid hR1
      replace hR2 := Lib.hid hR2
      replace hR3 := Lib.hid hR3
      replace hO := Lib.hid hO
      replace hB := Lib.hid hB
      have hD' : Hid (∀ y : Later (fun _ => False) W, y.val.heap[W0.heap.size]? = some (.deferred (some []))) := Lib.hid (fun y => (y.mod.block _ (by omega) (fun h => h)).trans hD)
      clear hT hP hF hD
      go_wp2_with fail
      refine wp_region_then (C := fun w' => ∃ x : Later (fun _ => False) W, w' = x.val) 13 (by kernel_rfl) (by kernel_rfl) ⟨⟨_, (Mod.refl _ _).drew⟩, rfl⟩ ?_
      simp only [List.take_succ_cons, List.take_zero]
      repeat (go_big_quiet_step (((go_at_call 27; with_reducible exact Calls.later (hdc.out _)))))
      refine wpQuiet_nil ?_
      rintro _ ⟨z, rfl⟩
      replace hV := Lib.hid (hV.out.mod z.mod (fun h => h))
      have HR1 := hR1.out.mod z.mod (fun h => h)
      have HR2 := hR2.out.mod z.mod (fun h => h)
      have HR3 := hR3.out.mod z.mod (fun h => h)
      replace hO := Lib.hid (own_mod hO.out z.mod (fun _ _ h => h))
      replace hB := Lib.hid (hB.out.trans (z.mod.below hB.out.size (fun _ h => h.elim)))
      have hD2 := Lib.hid (hD'.out z)
      have hsz := z.mod.size
      clear p0 b2 b3 b4 v0 v1 hR1 hR2 hR3 hdc hD'
      generalize z.val = w5 at *
      have c2 : w5.cell? ⟨w.heap.size + 1 + 1, 0, none⟩ = some (.int .i64 0) := HR2.cell (i := 0) rfl
      have f2 : w5.frozen? ⟨w.heap.size + 1 + 1, 0, none⟩ = false := HR2.froz 0
      refine wpAny_ready (rs := [13]) (by kernel_rfl) (by simp) ?_
      refine AllReady.cons rfl (fun K hK => ?_) AllReady.nil
      go_simp
      refine hK _ _ ?_
      clear hK K
      have hs2 := HR2.set 0 (.int .i64 (now + d))
      have q1 := Lib.hid (HR1.other (p := ⟨w.heap.size + 2, 0, none⟩) (show w.heap.size + 1 ≠ w.heap.size + 2 by omega) (.int .i64 (now + d)))
      have q2 := Lib.hid hs2
      have q3 := Lib.hid (HR3.other (p := ⟨w.heap.size + 2, 0, none⟩) (show w.heap.size + 3 ≠ w.heap.size + 2 by omega) (.int .i64 (now + d)))
      have qV := Lib.hid (hV.out.other (p := ⟨w.heap.size + 2, 0, none⟩) (show w.heap.size ≠ w.heap.size + 2 by omega) (.int .i64 (now + d)))
      have qO := Lib.hid (own_mod hO.out ((Mod.refl (· = w.heap.size + 2) w5).setCell (p := ⟨w.heap.size + 2, 0, none⟩) (fun _ => rfl) (.int .i64 (now + d))) (fun g hg e => by have := (own_blk_lt hO.out hg).1; omega))
      have qB := Lib.hid (hB.out.setCell (p := ⟨w.heap.size + 2, 0, none⟩) (by simp) (.int .i64 (now + d)))
      have qD := Lib.hid (setCell_heap (p := ⟨w.heap.size + 2, 0, none⟩) (v := .int .i64 (now + d)) hD2.out (show W0.heap.size ≠ w.heap.size + 2 by omega))
      have qs : W0.heap.size + 1 < (w5.setCell ⟨w.heap.size + 2, 0, none⟩ (.int .i64 (now + d))).heap.size := by simp; omega
      clear HR1 HR2 HR3 hV hO hB hD2 hs2 c2 f2
      refine wpAny_done (by kernel_rfl) ?_ _
      go_upto_region 12 with fail
      refine wp_world' (fun wx => Blk wx (w.heap.size + 1) #[.slice q m cq] 40 ∧ Blk wx (w.heap.size + 2) #[.int .i64 (now + d)] 3 ∧ Blk wx (w.heap.size + 3) #[.int .i64 0] 41 ∧ Blk wx w.heap.size V 47 ∧
          wx.ownsRow (W0.heap.size + 2) 85 3 (.slice q m cq) L.length (L.map tmV).flatten ∧ Below w.heap.size w wx ∧ wx.heap[W0.heap.size]? = some (.deferred (some [])) ∧ W0.heap.size + 1 < wx.heap.size) ⟨q1.out, q2.out, q3.out, qV.out, qO.out, qB.out, qD.out, qs⟩ ?_
      clear q1 q2 q3 qV qO qB qD qs
      rintro w6 ⟨q1, q2, q3, qV, qO, qB, qD, qs⟩
      have c1 : w6.cell? ⟨w.heap.size + 1, 0, none⟩ = some (.slice q m cq) := q1.cell (i := 0) rfl
      have c2 : w6.cell? ⟨w.heap.size + 1 + 1, 0, none⟩ = some (.int .i64 (now + d)) := q2.cell (i := 0) rfl
      have c3 : w6.cell? ⟨w.heap.size + 1 + 1 + 1, 0, none⟩ = some (.int .i64 0) := q3.cell (i := 0) rfl
      have f1 : w6.frozen? ⟨w.heap.size + 1, 0, none⟩ = false := q1.froz 0
      have f2 : w6.frozen? ⟨w.heap.size + 1 + 1, 0, none⟩ = false := q2.froz 0
      have f3 : w6.frozen? ⟨w.heap.size + 1 + 1 + 1, 0, none⟩ = false := q3.froz 0
      have k4 := qV.cell g4
      replace qO := Lib.hid qO
      replace qD := Lib.hid qD
      replace qB := Lib.hid qB
      replace q1 := Lib.hid q1
      replace q2 := Lib.hid q2
      replace q3 := Lib.hid q3
      clear qV
      have hDn := Lib.hid (fun (v1 v2 v3 : Value) => setCell_heap (p := ⟨w.heap.size + 3, 0, none⟩) (v := v3) (setCell_heap (p := ⟨w.heap.size + 2, 0, none⟩) (v := v2) (setCell_heap (p := ⟨w.heap.size + 1, 0, none⟩) (v := v1) qD.out (show W0.heap.size ≠ w.heap.size + 1 by omega)) (show W0.heap.size ≠ w.heap.size + 2 by omega)) (show W0.heap.size ≠ w.heap.size + 3 by omega))
      have hBn := Lib.hid (fun (v1 v2 v3 : Value) => below3 (p := ⟨w.heap.size + 1, 0, none⟩) (q := ⟨w.heap.size + 2, 0, none⟩) (r := ⟨w.heap.size + 3, 0, none⟩) (u := v1) (v := v2) (x := v3) qB.out (by simp) (by simp) (by simp))
      have hSn := Lib.hid (fun (v1 v2 v3 : Value) => set3 (v1 := v1) (v2 := v2) (v3 := v3) q1.out q2.out q3.out (by omega) (by omega) (by omega))
      have hk : Hid (∀ (X : World) (b : Nat) (v : Value) (ty : TypeId), b < W0.heap.size → Blk X b #[v] ty → (X.putObj W0.heap.size (.deferred none)).cell? ⟨b, 0, none⟩ = some v) := Lib.hid (fun X b v ty hb h => (putObj_cell (by show b ≠ _; omega)).trans (h.cell (i := 0) rfl))
      rw [hz] at hDn hk
      by_cases hlate : en < now + d
      · obtain rfl : X = ([], 0, 9) := by rw [hX3.out, if_pos hlate]
        clear hX3
        go_wp2
        refine ⟨by simp, .inl ⟨_, _, rfl, run_takeDeferred (hDn.out _ _ _), ?_⟩⟩
        obtain ⟨e1, e2, e3⟩ := hSn.out (.slice none 0 0) (.int .i64 0) (.int .i64 9)
        exact ⟨_, res_cell3 Try.results10 rfl rfl rfl (run_cellT (hk.out _ _ _ _ (by omega) e1)) (run_cellI (hk.out _ _ _ _ (by omega) e2)) (run_cellE (hk.out _ _ _ _ (by omega) e3)), tm_none rfl (below_putObj (hBn.out _ _ _) (by omega) _)⟩
      · obtain rfl : X = (L, now + d, 0) := by rw [hX3.out, if_neg hlate]
        clear hX3
        go_wp2_with fail
        go_region
        go_wp2
        refine ⟨by simp, .inl ⟨_, _, rfl, run_takeDeferred (hDn.out _ _ _), ?_⟩⟩
        obtain ⟨e1, e2, e3⟩ := hSn.out (.slice q m cq) (.int .i64 (now + d)) (.int .i64 0)
        have hmf : Mod (fun k => k < W0.heap.size + 2) w6 ((((w6.setCell ⟨w.heap.size + 1, 0, none⟩ (.slice q m cq)).setCell ⟨w.heap.size + 2, 0, none⟩ (.int .i64 (now + d))).setCell ⟨w.heap.size + 3, 0, none⟩ (.int .i64 0)).drew.putObj (bT + 5) (.deferred none)) :=
          (((((Mod.refl _ w6).setCell (p := ⟨w.heap.size + 1, 0, none⟩) (fun _ => (by show w.heap.size + 1 < W0.heap.size + 2; omega)) _).setCell (p := ⟨w.heap.size + 2, 0, none⟩) (fun _ => (by show w.heap.size + 2 < W0.heap.size + 2; omega)) _).setCell (p := ⟨w.heap.size + 3, 0, none⟩) (fun _ => (by show w.heap.size + 3 < W0.heap.size + 2; omega)) _).drew).putObj (fun _ => (by show bT + 5 < W0.heap.size + 2; omega)) _
        have hOf := own_mod qO.out hmf (fun g hg s => by have := (own_blk_lt qO.out hg).1; omega)
        have hEl := own_els (tmV_len L) (by simpa using hOf) (by simp; omega)
        simp only [List.length_map] at hEl
        obtain ⟨h1, rfl, h3, h4⟩ := hEl
        refine ⟨_, res_cell3 Try.results10 rfl rfl rfl (run_cellT (hk.out _ _ _ _ (by omega) e1)) (run_cellI (hk.out _ _ _ _ (by omega) e2)) (run_cellE (hk.out _ _ _ _ (by omega) e3)), ?_⟩
        exact ⟨q, cq, rfl, below_putObj (hBn.out _ _ _).drew (by omega) _, h1, h3, own_cap qO.out, fun a ha => ⟨by have := (h4 a ha).1; omega, (h4 a ha).2.2⟩⟩
  · have hX2 : X = ([], 0, wr) := hX.out.trans (if_pos v0)
    have d1 : (wr == 0) = false := beq_eq_false_iff_ne.2 v0
    have d2 : (wr != 0) = true := by rw [bne, d1]; rfl
    subst hX2
    obtain ⟨e1, e2, e3⟩ := set3 (v1 := .slice none 0 0) (v2 := .int .i64 0) (v3 := .int .i64 wr) hR1 hR2 hR3 (by omega) (by omega) (by omega)
    have E1 := Lib.hid e1
    have E2 := Lib.hid e2
    have E3 := Lib.hid e3
    have c1 : w2.cell? ⟨w.heap.size + 1, 0, none⟩ = some (.slice none 0 0) := hR1.cell (i := 0) rfl
    have c2 : w2.cell? ⟨w.heap.size + 1 + 1, 0, none⟩ = some (.int .i64 0) := hR2.cell (i := 0) rfl
    have c3 : w2.cell? ⟨w.heap.size + 1 + 1 + 1, 0, none⟩ = some (.int .i64 0) := hR3.cell (i := 0) rfl
    have f1 := hR1.froz 0
    have f2 : w2.frozen? ⟨w.heap.size + 1 + 1, 0, none⟩ = false := hR2.froz 0
    have f3 : w2.frozen? ⟨w.heap.size + 1 + 1 + 1, 0, none⟩ = false := hR3.froz 0
    have HB := Lib.hid (below3 (p := ⟨w.heap.size + 1, 0, none⟩) (q := ⟨w.heap.size + 2, 0, none⟩) (r := ⟨w.heap.size + 3, 0, none⟩) (u := .slice none 0 0) (v := .int .i64 0) (x := .int .i64 wr) hb (by simp) (by simp) (by simp))
    clear hX hz e1 e2 e3 hB hR1 hR2 hR3 hb hlt3
    go_wp2
    exact ⟨_, res_cell3 Try.results10 rfl rfl rfl (run_cellT (E1.out.cell (i := 0) rfl)) (run_cellI (E2.out.cell (i := 0) rfl)) (run_cellE (E3.out.cell (i := 0) rfl)), tm_none rfl HB.out⟩
end Go.Proofs.Ytpbmeeogledmdae
