/-
  Layer 13, the program's: New.
  Layer 13, the program's: New, the walk.
-/
import Derived.Test.YtpbmeeogledmdaePe
import Derived.Test.YtpbmeeogledmdaePg
import Derived.Test.YtpbmeeogledmdaePd
namespace Go.Proofs.Ytpbmeeogledmdae
open Go.RowKit

theorem rqV_allP (l : List Rq) : ∀ z ∈ l.map rqV, ∀ u ∈ z, u.oneCell' = true := by
  intro z hz
  obtain ⟨s, _, rfl⟩ := List.mem_map.1 hz
  exact rq_one s
theorem run_nilR {ρ : Operand → Value} {o : Oper} {w : World} {x : Operand} {p : Option Addr} {n c : Nat} (ho : o.op = .binOp .eql 30 x (.const (.slice none 0 0)) 30) (hx : ρ x = .slice p n c) (hc : ρ (.const (.slice none 0 0)) = .slice none 0 0 := by rfl) :
    (execOp ρ o).run Try.prog w = .ok (.value (.bool p.isNone)) w := by
  have h := Lib.run_eql_slice_nil (P := Try.prog) w 30 61 p n c 0 0 Try.underlying30
  cases p <;> (unfold execOp; simp only [ho, hx, hc]; go_simp)
theorem rsl_rqZP (w : World) : (Instr.buildSlice 30 0 #[]).run Try.prog w = .ok (.slice (some ⟨w.heap.size, 0, none⟩) 0 0) (w.alloc (.cells #[] 61)) := by kernel_rfl
/-- what Clone hands back -/
def RcPost (w : World) (l : List Rq) (e : Ending) (w' : World) : Prop :=
  Below w.heap.size w w' ∧ ∃ q d, e = .returned (.slice q l.length d) ∧ (l.length ≤ d ∧ d ≤ 9223372036854775807) ∧ Els w' q 10 (l.map rqV) ∧ ∀ a, q = some a → w.heap.size ≤ a.block
set_option maxHeartbeats 1000000 in
set_option maxRecDepth 100000 in
theorem rclone_calls (p : Option Addr) (c : Nat) (l : List Rq) (w : World) (hE : Els w p 10 (l.map rqV)) (hl : l.length ≤ 1000) :
    Calls Try.prog 39 #[.slice p l.length c] w (RcPost w l) := by
  cases p with
  | none =>
    have h0 : l = [] := by have := hE.nil rfl; simpa using this
    subst h0
    clear hE
    show Calls Try.prog 39 #[.slice none 0 c] w _
    go_enter Try.func39, Try.ntmps39
    go_wp2_with (refine wpList_v rfl (.bool true) (run_nilR (p := none) rfl rfl) ?_)
    go_ret
    exact ⟨Below.refl _ _, none, 0, rfl, ⟨Nat.le_refl _, by omega⟩, els_nilP _ _ _, fun a h => by cases h⟩
  | some a =>
    have ho1 := Lib.hid (World.ownsRow_made (base := w.heap.size) (e := 61) (size := 10) w #[] 0 (Nat.le_refl _) (by unfold maxLen; omega) rfl)
    have hlow1 := Lib.hid (new_below w (.cells #[] 61))
    have hEA := Lib.hid (hE.below hlow1.out)
    have hz1 := Lib.hid hlow1.out.size
    have hTl := Lib.hid (show l.length = (l.map rqV).length by rw [List.length_map])
    have hall := Lib.hid (rqV_allP l)
    replace hE := Lib.hid hE
    go_enter Try.func39, Try.ntmps39
    go_wp2_with (first | (refine wpList_v rfl (.bool false) (run_nilR (p := some a) rfl rfl) ?_) | (refine wpList_bs0 rfl 30 0 rfl _ _ (rsl_rqZP _) ?_) |
      (refine wpList_appE rq_el rfl _ _ rfl w.heap.size hz1.out _ 0 [] rfl ho1.out (by omega) (some a) l.length c _ rfl hEA.out hTl.out (by omega) hall.out ?_; intro v6 w6 hO6 hg6))
    have hlow6 := grown_low hlow1.out (Nat.le_refl _) (Nat.le_refl _) ho1.out hg6
    rw [Nat.zero_add, List.nil_append] at hO6
    obtain ⟨qO, nO, dO, rfl⟩ := own_isS hO6
    obtain ⟨hEO, hnO, hdO, hfO⟩ := own_els (R := l.map rqV) (rqV_len _) (by rw [List.length_map]; exact hO6) (by rw [List.length_map]; omega)
    rw [List.length_map] at hnO
    subst hnO
    have hcap := own_cap hO6
    clear ho1 hlow1 hEA hz1 hg6 hO6 hall hTl
    go_wp2_with fail
    go_ret
    exact ⟨hlow6, qO, dO, rfl, ⟨hdO, hcap⟩, hEO, fun a ha => (hfO a ha).1⟩

set_option maxHeartbeats 1000000 in
set_option maxRecDepth 100000 in
theorem index_rq (p : Option Addr) (c : Nat) (R : List (Rq)) (f : FuncId) (caps : Array Value) (Pd : Rq → Bool) (w : World) (hE : Els w p 10 (R.map rqV)) (eg : ∀ args w, (callFunc f args).run Try.prog w = .ok (.enter f args) w)
    (hf : ∀ r ∈ R, ∀ wx, Below w.heap.size w wx → Calls Try.prog f (#[.agg (rqV r).toArray] ++ caps) wx fun e w' => e = .returned (.bool (Pd r)) ∧ Below wx.heap.size wx w') :
    Calls Try.prog 60 #[.slice p R.length c, .func (.func f) #[] caps] w fun e w' => (∃ i : Int, e = .returned (.int .i64 i) ∧ (0 ≤ i ↔ R.any Pd = true)) ∧ Below w.heap.size w w' := by
  have hb : R.length ≤ 140737488351232 := by simpa using hE.big
  replace hE := Lib.hid hE
  replace hf := Lib.hid hf
  go_enter Try.func60, Try.ntmps60
  go_wp2_with fail
  go_loopw [8] (fun i wr => ∃ k : Nat, k ≤ R.length ∧ i = .int .i64 k ∧ Hid (∀ j r, j < k → R[j]? = some r → Pd r = false) ∧ Below w.heap.size w wr) (fun i _ => R.length - (intOf i).toNat)
  case atStart => exact ⟨0, Nat.zero_le _, rfl, Lib.hid (fun j r h => by omega), Below.refl _ _⟩
  case round =>
    obtain ⟨k, hk, rfl, hR, hbr⟩ := hrel
    by_cases hlt : k < R.length
    · have hltI : (k : Int) < (R.length : Int) := by omega
      have s1 : IntKind.i64.wrap ((k : Int) + 1) = (k : Int) + 1 := IntWalk.i64_in _ (by omega)
      obtain ⟨a, rfl⟩ := (hE.out.below hbr).some_of (k := k) (by simpa using hlt)
      have hc : Hid ((loadVar 61 (a.add (k * 10))).run Try.prog wr = .ok (.agg (rqV R[k]).toArray) wr) := Lib.hid (by
        have := (hE.out.below hbr).load (P := Try.prog) (a := a) rfl (k := k) (by simpa using hlt) (ty := 61) Try.underlying61 rfl (by kernel_rfl)
        rw [List.getElem_map] at this
        exact this)
      have hfk := Lib.hid (hf.out _ (List.getElem_mem hlt) wr hbr)
      have hok : Hid (Pd R[k] = false → ∀ j r, j < k + 1 → R[j]? = some r → Pd r = false) := Lib.hid (fun h j u hj hju => by
        by_cases e : j = k
        · subst e; rw [List.getElem?_eq_getElem hlt] at hju; cases hju; exact h
        · exact hR.out j u (by omega) hju)
      have hbad : Hid (Pd R[k] = true → R.any Pd = true) := Lib.hid (fun h => List.any_eq_true.2 ⟨_, List.getElem_mem hlt, h⟩)
      generalize R[k] = r at hc hfk hok hbad
      generalize (rqV r).toArray = rv at hc hfk
      generalize Pd r = b at hfk hok hbad
      clear hR
      go_wp2_with (first | (refine wpList_load_v rfl 61 _ rfl (a.add (k * 10)) rfl _ hc.out ?_))
      refine hfk.out.mono ?_
      rintro e w2 ⟨rfl, hb2⟩
      replace hb2 := hbr.trans (hb2.mono hbr.size)
      clear hfk hbr hc
      cases b with
      | true =>
        have hy := hbad.out rfl
        clear hbad hok
        go_wp2
        go_ret
        exact ⟨⟨k, rfl, by simp [hy]⟩, hb2⟩
      | false =>
        have hok' := Lib.hid (hok.out rfl)
        clear hbad hok
        go_wp2_with fail
        go_roundw
        case rel => exact ⟨k + 1, by omega, by simp, hok', hb2⟩
        case measure => simp [intOf]; omega
    · obtain rfl : k = R.length := by omega
      have hn : R.any Pd = false := by
        rw [List.any_eq_false]
        intro x hx
        obtain ⟨j, hj, rfl⟩ := List.getElem_of_mem hx
        rw [hR.out j _ hj (List.getElem?_eq_getElem hj)]
        decide
      clear hR
      go_wp2
      go_ret
      exact ⟨⟨-1, rfl, by simp [hn]⟩, hbr⟩
theorem contains_rq (p : Option Addr) (c : Nat) (R : List (Rq)) (f : FuncId) (caps : Array Value) (Pd : Rq → Bool) (w : World) (hE : Els w p 10 (R.map rqV)) (eg : ∀ args w, (callFunc f args).run Try.prog w = .ok (.enter f args) w)
    (hf : ∀ r ∈ R, ∀ wx, Below w.heap.size w wx → Calls Try.prog f (#[.agg (rqV r).toArray] ++ caps) wx fun e w' => e = .returned (.bool (Pd r)) ∧ Below wx.heap.size wx w') :
    Calls Try.prog 40 #[.slice p R.length c, .func (.func f) #[] caps] w fun e w' => e = .returned (.bool (R.any Pd)) ∧ Below w.heap.size w w' := by
  have hi := Lib.hid (index_rq p c R f caps Pd w hE eg hf)
  clear hf eg
  generalize R.any Pd = b at hi ⊢
  go_enter Try.func40, Try.ntmps40
  go_wp2_with fail
  refine hi.out.mono ?_
  rintro e w2 ⟨⟨i, rfl, h⟩, hb2⟩
  replace h := Lib.hid h
  clear hi
  by_cases h0 : 0 ≤ i
  · obtain rfl : b = true := h.out.1 h0
    clear h
    go_wp2
    go_ret
    exact ⟨by simp, hb2⟩
  · obtain rfl : b = false := by
      cases b with
      | false => rfl
      | true => exact absurd (h.out.2 rfl) h0
    clear h
    go_wp2
    go_ret
    exact ⟨by simp [h0], hb2⟩

set_option maxRecDepth 100000 in
theorem new1_calls (r : Rq) (w : World) : Calls Try.prog 41 #[.agg (rqV r).toArray] w fun e w' => e = .returned (.bool (rqE r != 0)) ∧ Below w.heap.size w w' := by
  have hc := Lib.hid (fun wx => check_calls (r 0) (r 1) (r 2) (r 3) (r 4) (r 5) (r 6) (r 7) (r 8) (r 9) wx)
  change Hid (∀ wx, Calls Try.prog 32 #[.agg (rqV r).toArray] wx fun e w' => e = .returned (.int .i64 (rqE r)) ∧ Below wx.heap.size wx w') at hc
  obtain ⟨Y, hY⟩ : ∃ Y, (rqV r).toArray = Y := ⟨_, rfl⟩
  have hYs : Y.size = 10 := by rw [← hY]; rfl
  rw [hY] at hc ⊢
  generalize rqE r = c at *
  have hB := Lib.hid (Blk.new w Y 61)
  have hl := Lib.hid (run_load_row (P := Try.prog) _ w.heap.size 61 Y _ _ hB.out Try.underlying61 rfl (by rw [hYs]; kernel_rfl))
  have hb0 := Lib.hid (new_below w (.cells Y 61))
  have hz : (w.alloc (.cells Y 61)).heap.size = w.heap.size + 1 := by simp
  replace hz := Lib.hid hz
  replace hYs := Lib.hid hYs
  clear hY hB
  go_enter Try.func41, Try.ntmps41
  go_wp2_with (refine wpList_load_v rfl 61 _ rfl ⟨w.heap.size, 0, none⟩ rfl _ hl.out ?_)
  refine (hc.out _).mono ?_
  rintro e w2 ⟨rfl, hb⟩
  have hb2 := Lib.hid (hb0.out.trans (hb.mono (by rw [hz.out]; omega)))
  clear hb
  go_wp2
  go_ret
  exact ⟨by simp [bne, BEq.beq], hb2.out⟩
end Go.Proofs.Ytpbmeeogledmdae
namespace Go.Proofs.Ytpbmeeogledmdae
open Go.RowKit

/-- why there is no plan -/
def newC (fl : List Ve) (t : List Rq) : Int := if fl.length = 0 ∨ 4 < fl.length then 11 else if fl.any (fun v => vehV v != 0) then 2 else if t.any (fun r => rqE r != 0) then 2 else 0
/-- a fleet's routes, ahead of all -/
def rows0 (fl : List Ve) : List Rou2 := fl.map fun _ => []
def qs0 (fl : List Ve) : List (Option Addr × Nat) := fl.map fun _ => (none, 0)
def NwPost (w : World) (fl : List Ve) (t : List Rq) (e : Ending) (w' : World) : Prop :=
  Below w.heap.size w w' ∧ ((newC fl t ≠ 0 ∧ e = .returned (.tuple #[.pointer none, .int .i64 (newC fl t)])) ∨ (newC fl t = 0 ∧ ∃ b gT gM F, e = .returned (.tuple #[.pointer (some ⟨b, 0, none⟩), .int .i64 0]) ∧ (∀ k, F k → w.heap.size ≤ k) ∧ PlanAt w' F b gT gM 0 fl (rows0 fl) t))
theorem rows0_at (fl : List Ve) (i : Nat) : (rows0 fl).getD i [] = [] := by
  unfold rows0
  rw [List.getD_eq_getElem?_getD, List.getElem?_map]
  cases fl[i]? <;> rfl
theorem qs0_at (fl : List Ve) (i : Nat) : (qs0 fl).getD i (none, 0) = (none, 0) := by
  unfold qs0
  rw [List.getD_eq_getElem?_getD, List.getElem?_map]
  cases fl[i]? <;> rfl
theorem where0 (fl : List Ve) (req : Int) : whereP (rows0 fl) req = -1 := by
  rcases fstI_cases (fun l : Rou2 => l.any (fun s => s.1 == req)) (rows0 fl) with ⟨h, _⟩ | ⟨k, hk, h, h1, _⟩
  · exact h
  · have : (rows0 fl)[k] = [] := by simp [rows0]
    rw [this] at h1
    cases h1
theorem whM0 (fl : List Ve) : whM (rows0 fl) = fun _ => none := by
  funext r
  exact whM_none (by rw [where0]; omega)
/-- the tours so far -/
def trs0 (fl : List Ve) (k : Nat) : List (List Value) := (fl.take k).map fun v => trV v (none, 0) 0
theorem trs0_succ (fl : List Ve) {k : Nat} (hk : k < fl.length) : (trs0 fl (k + 1)).flatten = (trs0 fl k).flatten ++ trV fl[k] (none, 0) 0 := by
  unfold trs0
  rw [List.take_succ_eq_append_getElem hk, List.map_append, List.flatten_append]
  simp
theorem trs0_all (fl : List Ve) : trs0 fl fl.length = trs fl (rows0 fl) (qs0 fl) := by
  unfold trs0 trs
  rw [List.take_length]
  refine List.ext_getElem (by simp) fun i h1 h2 => ?_
  simp only [List.getElem_map, List.getElem_range, rows0_at, qs0_at]
  rw [List.getD_eq_getElem?_getD, List.getElem?_eq_getElem (by simpa using h1)]
  rfl
theorem trs0_len (fl : List Ve) (k : Nat) : ∀ x ∈ trs0 fl k, x.length = 6 := by
  intro x hx
  obtain ⟨s, _, rfl⟩ := List.mem_map.1 hx
  rfl
theorem trs0_size (fl : List Ve) {k : Nat} (hk : k ≤ fl.length) : (trs0 fl k).length = k := by
  unfold trs0
  simp
  omega
theorem tr_el : ElT Try.prog 73 78 6 64 := ⟨Try.underlying73, by kernel_rfl, by kernel_rfl, by kernel_rfl, by omega, by omega⟩
theorem rsl_tr (v : Ve) (w : World) : (Instr.buildSlice 73 1 #[(0, .agg (trV v (none, 0) 0).toArray)]).run Try.prog w = .ok (.slice (some ⟨w.heap.size, 0, none⟩) 1 1) (w.alloc (.cells (trV v (none, 0) 0).toArray 78)) := by kernel_rfl
theorem run_trB (v : Ve) (w : World) : (Instr.build 78 #[(0, .agg (veR v).toArray)]).run Try.prog w = .ok (.agg (trV v (none, 0) 0).toArray) w := by kernel_rfl
theorem sk_app {P : Program} {T E : TypeId} {n b : Nat} {R : Value → World → Prop} (hT : ElT P T E n b) {ρ : Operand → Value} {o : Oper} {w : World} {x y : Operand} (base : Nat) (hbase : base ≤ w.heap.size) (v : Value) (m : Nat) (xs : List Value) (ho : o.op = .call { callee := .builtin .append, args := #[x, y], argTypes := #[T, T] })
    (hx : ρ x = v) (hown : w.ownsRow base E n v m xs) (hm : m ≤ 100000) (a : Addr) (k c : Nat) (news : List Value) (hy : ρ y = .slice (some a) k c) (hl : news.length = k * n) (hk : k ≤ 1000) (hc : ∀ j u, news[j]? = some u → w.cell? (a.add j) = some u) (h1 : ∀ u ∈ news, u.oneCell' = true)
    (h : ∀ v' w', w'.ownsRow base E n v' (m + k) (xs ++ news) → w.grownBy w' v.ownBlock → R v' w') : upon2 P R ((execOp ρ o).run P w) := by
  obtain ⟨v', w', h2, h3, h4⟩ := run_appG hT base hbase v m xs ho hx hown hm a k c news hy hl hk hc h1
  rw [h2]
  exact h v' w' h3 h4
/-- where the region that appends a tour stands: J common, O ahead of it, R the new row, O' behind it -/
def ClN (J O : World → Prop) (R : Nat → World → Prop) (O' : Value → World → Prop) (a : Addr) (x : Nat × Value) (b7 b8 b11 : Bool) (W : World) : Prop :=
  ∃ W0, (W = bif b11 then W0.setCell a x.2 else W0) ∧ J W0 ∧ (b8 = true → O' x.2 W0) ∧ (b8 = false → O W0 ∧ (b7 = true → R x.1 W0))
theorem ClN.j {J O : World → Prop} {R : Nat → World → Prop} {O' : Value → World → Prop} {a : Addr} {x : Nat × Value} {b7 b8 : Bool} {W : World} (h : ClN J O R O' a x b7 b8 false W) : J W := by
  obtain ⟨W0, rfl, hj, _⟩ := h
  exact hj
section
variable {ρ : Operand → Value} {o : Oper} {w : World} {x y : Operand}
theorem run_bldTr {v : Ve} (ho : o.op = .build 78 #[(0, x)]) (hx : ρ x = .agg (veR v).toArray) : (execOp ρ o).run Try.prog w = .ok (.value (.agg (trV v (none, 0) 0).toArray)) w := by
  unfold execOp
  simp only [ho, List.map_toArray, List.map_cons, List.map_nil, hx, Sem.run_bind, run_trB, Result.andThen_ok, Sem.run_pure]
theorem run_bslTr {v : Ve} (ho : o.op = .buildSlice 73 1 #[(0, x)]) (hx : ρ x = .agg (trV v (none, 0) 0).toArray) : (execOp ρ o).run Try.prog w = .ok (.value (.slice (some ⟨w.heap.size, 0, none⟩) 1 1)) (w.alloc (.cells (trV v (none, 0) 0).toArray 78)) := by
  unfold execOp
  simp only [ho, List.map_toArray, List.map_cons, List.map_nil, hx, Sem.run_bind, rsl_tr, Result.andThen_ok, Sem.run_pure]
theorem run_storeTS {p : Addr} {q : Option Addr} {m c : Nat} {v : Value} (ho : o.op = .store 73 x y) (hx : ρ x = .pointer (some p)) (hy : ρ y = .slice q m c) (hc : w.cell? p = some v) (hf : w.frozen? p = false) :
    (execOp ρ o).run Try.prog w = .ok .skip (w.setCell p (.slice q m c)) := by
  unfold execOp
  simp only [ho, hx, hy]
  go_simp
end
/-- where New stands with k tours appended -/
structure NwI (w wx : World) (M : Nat) (q : Option Addr) (d : Nat) (fl : List Ve) (t : List Rq) (k : Nat) (sT : Value) : Prop where
  box : Blk wx (M + 1) #[.slice q t.length d, sT, .map (some M)] 76
  map : MapV Try.prog 3 3 wx M 0 (fun _ => none)
  req : Els wx q 10 (t.map rqV)
  low : Below w.heap.size w wx
  own : wx.ownsRow (M + 2) 78 6 sT k (trs0 fl k).flatten
  qlt : ∀ a, q = some a → t ≠ [] → w.heap.size ≤ a.block ∧ a.block < M
  ge : w.heap.size ≤ M
  sz : M + 2 ≤ wx.heap.size
theorem NwI.mod {w wx wy : World} {M : Nat} {q : Option Addr} {d : Nat} {fl : List Ve} {t : List Rq} {k : Nat} {sT : Value} (h : NwI w wx M q d fl t k sT) (hm : Mod (fun _ => False) wx wy) : NwI w wy M q d fl t k sT :=
  ⟨h.box.mod hm (fun h => h), h.map.mod hm (fun h => h), els_modP h.req hm (fun _ _ _ h => h), h.low.trans (hm.below h.low.size (fun _ h => h.elim)), own_mod h.own hm (fun _ _ h => h), h.qlt, h.ge, Nat.le_trans h.sz hm.size⟩
theorem NwI.start {w w1 : World} {q : Option Addr} {d : Nat} {fl : List Ve} {t : List Rq} (hb1 : Below w.heap.size w w1) (hE : Els w1 q 10 (t.map rqV)) (hf : ∀ a, q = some a → w.heap.size ≤ a.block) :
    NwI w ((w1.alloc (.map #[] 0)).alloc (.cells #[.slice q t.length d, .slice none 0 0, .map (some w1.heap.size)] 76)) w1.heap.size q d fl t 0 (.slice none 0 0) := by
  have hmap := MapV.new Try.prog 3 3 w1
  have hm2 : Mod (fun _ => False) w1 ((w1.alloc (.map #[] 0)).alloc (.cells #[.slice q t.length d, .slice none 0 0, .map (some w1.heap.size)] 76)) := ((Mod.refl _ _).alloc _).alloc _
  have hbx := Blk.new (w1.alloc (.map #[] 0)) #[.slice q t.length d, .slice none 0 0, .map (some w1.heap.size)] 76
  have hsz1 : (w1.alloc (.map #[] 0)).heap.size = w1.heap.size + 1 := by simp
  rw [hsz1] at hbx
  refine ⟨hbx, hmap.mod ((Mod.refl (fun _ => False) _).alloc _) (fun h => h), els_modP hE hm2 (fun _ _ _ h => h), hb1.trans (hm2.below hb1.size (fun _ h => h.elim)), World.ownsRow_nil _ _ _ _, fun a ha h0 => ⟨hf a ha, els_lt hE (fun e => h0 (List.map_eq_nil_iff.1 e)) ha⟩, hb1.size, by simp⟩
theorem NwI.next {w wx W : World} {M : Nat} {q p : Option Addr} {d m c : Nat} {fl : List Ve} {t : List Rq} {k : Nat} {sT : Value} (h : NwI w wx M q d fl t k sT) (hm : Mod (fun k => M + 2 ≤ k) wx W) (ho : W.ownsRow (M + 2) 78 6 (.slice p m c) (k + 1) (trs0 fl (k + 1)).flatten) :
    NwI w (W.setCell ⟨M + 1, 1, none⟩ (.slice p m c)) M q d fl t (k + 1) (.slice p m c) := by
  have hs : Mod (· = M + 1) W (W.setCell ⟨M + 1, 1, none⟩ (.slice p m c)) := (Mod.refl (· = M + 1) _).setCell (p := ⟨M + 1, 1, none⟩) (fun _ => rfl) _
  have hq : ∀ a, q = some a → (t.map rqV) ≠ [] → a.block < M := fun a ha h0 => (h.qlt a ha (fun e => h0 (by rw [e]; rfl))).2
  have hge := h.ge
  refine ⟨?_, (h.map.mod hm (by omega)).mod hs (by omega), els_modP (els_modP h.req hm (fun a ha h0 => by have := hq a ha h0; omega)) hs (fun a ha h0 => by have := hq a ha h0; omega),
    (h.low.trans (hm.below h.low.size (fun k hk => by omega))).trans (hs.below (Nat.le_trans h.low.size hm.size) (fun k hk => by omega)), own_mod ho hs (fun g hg => by have := own_blk_lt ho hg; omega), h.qlt, hge, Nat.le_trans (Nat.le_trans h.sz hm.size) hs.size⟩
  have := (h.box.mod hm (by omega)).set 1 (.slice p m c)
  simpa using this
theorem NwI.plan {w wx : World} {M : Nat} {q : Option Addr} {d : Nat} {fl : List Ve} {t : List Rq} {sT : Value} (h : NwI w wx M q d fl t fl.length sT) (hn : 0 < fl.length ∧ fl.length ≤ 4) (hd : t.length ≤ d ∧ d ≤ 9223372036854775807) :
    ∃ (gT : Nat) (F : Nat → Prop), (∀ k, F k → w.heap.size ≤ k) ∧ PlanAt wx F (M + 1) gT M 0 fl (rows0 fl) t := by
  have ho := h.own
  obtain ⟨p, m, c, rfl⟩ := own_isS ho
  obtain rfl := own_lenC ho
  obtain ⟨gT, C, rfl, hC, hg, _⟩ := ownS_blk ho hn.1
  have hlt := (own_blk_lt ho (g := gT) rfl).2
  obtain ⟨h1, h2, h3, h4⟩ := own_els (trs0_len fl fl.length) (by rw [trs0_size fl (Nat.le_refl _)]; exact ho) (by rw [trs0_size fl (Nat.le_refl _)]; omega)
  have hge := h.ge
  have hsz := h.sz
  refine ⟨gT, fun k => k = M + 1 ∨ k = gT ∨ k = M ∨ ∃ a, q = some a ∧ t ≠ [] ∧ k = a.block, ?_, q, d, c, qs0 fl, h.box, h.req, ⟨C, hC⟩, by rw [← trs0_all]; exact h1, by rw [whM0]; exact h.map, ?_, ?_, ?_, ?_, .inl rfl, .inr (.inl rfl), .inr (.inr (.inl rfl)), by omega, by omega, by omega, ?_, by simp [rows0], by simp [qs0], ⟨hn.2, h3, own_cap ho⟩, hd⟩
  · rintro k (rfl | rfl | rfl | ⟨a, ha, h0, rfl⟩)
    · omega
    · omega
    · omega
    · exact (h.qlt a ha h0).1
  · intro i
    rw [rows0_at, qs0_at]
    exact els_nilP _ _ _
  · intro i
    rw [rows0_at, qs0_at]
    exact ⟨Nat.le_refl _, by omega⟩
  · intro i a ha h0
    rw [rows0_at] at h0
    exact absurd rfl h0
  · intro a ha h0
    have := (h.qlt a ha h0).2
    exact ⟨.inr (.inr (.inr ⟨a, ha, h0, rfl⟩)), by omega, by omega⟩
  · rintro k (rfl | rfl | rfl | ⟨a, ha, h0, rfl⟩)
    · omega
    · exact hlt
    · omega
    · have := (h.qlt a ha h0).2; omega
theorem newC_bad {fl : List Ve} {t : List Rq} {tb : Bool} (hN : newC fl t = if fl.any (fun v => vehV v != 0) then 2 else if tb then 2 else 0) {k : Nat} {v : Ve} (hk : fl[k]? = some v) (hv : vehV v ≠ 0) : newC fl t = 2 := by
  rw [hN, if_pos]
  exact List.any_eq_true.2 ⟨v, List.mem_of_getElem? hk, by simpa using hv⟩
theorem newC_ok {fl : List Ve} {t : List Rq} {tb : Bool} (hN : newC fl t = if fl.any (fun v => vehV v != 0) then 2 else if tb then 2 else 0) (h : ∀ (j : Nat) (v : Ve), j < fl.length → fl[j]? = some v → vehV v = 0) : newC fl t = if tb then 2 else 0 := by
  rw [hN, if_neg]
  intro hh
  obtain ⟨v, hv, h2⟩ := List.any_eq_true.1 hh
  obtain ⟨j, hj, rfl⟩ := List.getElem_of_mem hv
  have := h j _ hj (List.getElem?_eq_getElem hj)
  rw [this] at h2
  cases h2
set_option maxHeartbeats 4000000 in
set_option maxRecDepth 100000 in
theorem pnew_calls (pF pT : Option Addr) (cF cT : Nat) (fl : List Ve) (t : List Rq) (w : World) (hF : Els w pF 5 (fl.map veR)) (hfl : fl.length ≤ 1000) (hT : Els w pT 10 (t.map rqV)) (ht : t.length ≤ 1000) :
    Calls Try.prog 16 #[.slice pF fl.length cF, .slice pT t.length cT] w (NwPost w fl t) := by
  by_cases hbad : fl.length = 0 ∨ 4 < fl.length
  · have hc : newC fl t = 11 := by unfold newC; rw [if_pos hbad]
    unfold NwPost
    rw [hc]
    clear hc hF hT
    by_cases h0 : fl.length = 0
    · rw [h0]
      clear h0 hbad
      go_enter Try.func16, Try.ntmps16
      go_wp2_with fail
      go_ret2
      exact ⟨Below.refl _ _, .inl ⟨by decide, rfl⟩⟩
    · have h4 : (4 : Int) < (fl.length : Int) := by omega
      have h0I : ¬ (fl.length : Int) = 0 := by omega
      generalize fl.length = n at *
      clear hbad
      go_enter Try.func16, Try.ntmps16
      go_wp2_with fail
      go_ret2
      exact ⟨Below.refl _ _, .inl ⟨by decide, rfl⟩⟩
  have hcl := Lib.hid (rclone_calls pT cT t w hT ht)
  unfold RcPost at hcl
  have h4 : ¬ (4 : Int) < (fl.length : Int) := by omega
  have h0I : ¬ (fl.length : Int) = 0 := by omega
  have hbig : 0 < fl.length ∧ fl.length ≤ 4 := by omega
  have hcnt := Lib.hid (fun wx (hb : Below w.heap.size w wx) => contains_rq pT cT t 41 #[] (fun r => rqE r != 0) wx (hT.below hb) (enters_of Try.func41 (by kernel_rfl) rfl) (fun r _ wy _ => new1_calls r wy))
  have hN : newC fl t = if fl.any (fun v => vehV v != 0) then 2 else if t.any (fun r => rqE r != 0) then 2 else 0 := by unfold newC; rw [if_neg hbad]
  clear hT hbad
  replace hF := Lib.hid hF
  replace hN := Lib.hid hN
  have hte := Lib.hid ht
  clear ht
  generalize (t.any fun r => rqE r != 0) = tb at *
  have hmm := @run_makeMap Try.prog
  obtain ⟨n, hn⟩ : ∃ n, fl.length = n := ⟨_, rfl⟩
  rw [hn] at h4 h0I hbig hfl ⊢
  have hn0 : ¬ n = 0 := by omega
  replace hn := Lib.hid hn
  go_enter Try.func16, Try.ntmps16
  go_upto_region 3 with fail
  go_wp2_with fail
  refine hcl.out.mono ?_
  rintro e w1 ⟨hb1, q, dq, rfl, hdq, hE, hf⟩
  have hpre := Lib.hid (NwI.start (d := dq) (fl := fl) hb1 hE hf)
  clear hb1 hE hf
  go_upto_region 4 with fail
  generalize w1.heap.size = M at *
  refine wp_world' (fun wx => NwI w wx M q dq fl t 0 (.slice none 0 0)) hpre.out ?_
  clear hpre
  intro w2 hI
  replace hI := Lib.hid hI
  go_wp2_with fail
  go_loopw [24] (fun i wx => ∃ (k : Nat) (sT : Value), k ≤ n ∧ i = .int .i64 k ∧ Hid (∀ (j : Nat) (v : Ve), j < k → fl[j]? = some v → vehV v = 0) ∧ NwI w wx M q dq fl t k sT) (fun i _ => n - (intOf i).toNat)
  case atStart => exact ⟨0, _, Nat.zero_le _, rfl, Lib.hid (fun j v h => by omega), hI.out⟩
  case round =>
    obtain ⟨k, sT, hk, rfl, hR, hI2⟩ := hrel
    clear hI
    by_cases hlt : k < n
    · have hltI : (k : Int) < (n : Int) := by omega
      have hk0 : (0 : Int) ≤ (k : Int) := by omega
      have s1 : IntKind.i64.wrap ((k : Int) + 1) = (k : Int) + 1 := IntWalk.i64_in _ (by omega)
      have hkl : k < fl.length := by rw [hn.out]; exact hlt
      obtain ⟨a, rfl⟩ := (hF.out.below hI2.low).some_of (k := k) (by simpa using hkl)
      have hl := Lib.hid (show (loadVar 47 (a.add (k * 5))).run Try.prog wr = .ok (.agg (veR fl[k]).toArray) wr from by
        have := (hF.out.below hI2.low).load (P := Try.prog) (a := a) rfl (k := k) (by simpa using hkl) (ty := 47) Try.underlying47 rfl (by kernel_rfl)
        rw [List.getElem_map] at this
        exact this)
      have hsuc := Lib.hid (trs0_succ fl hkl)
      have hvk := Lib.hid (List.getElem?_eq_getElem hkl)
      have hve := Lib.hid (fun wx => vehicle_calls (fl[k] 0) (fl[k] 1) (fl[k] 2) (fl[k] 3) (fl[k] 4) wx)
      change Hid (∀ wx, Calls Try.prog 30 #[.agg (veR fl[k]).toArray] wx fun e w' => e = .returned (.int .i64 (vehV fl[k])) ∧ Below wx.heap.size wx w') at hve
      generalize fl[k] = v at *
      obtain ⟨Y, hY⟩ : ∃ Y, (veR v).toArray = Y := ⟨_, rfl⟩
      have hYs : Y.size = 5 := by rw [← hY]; rfl
      have hY1 : ∀ u ∈ Y.toList, u.oneCell' = true := by rw [← hY]; simp [veR, Value.oneCell']
      rw [hY] at hl hve
      replace hY := Lib.hid hY
      obtain ⟨c, hc⟩ : ∃ c, vehV v = c := ⟨_, rfl⟩
      rw [hc] at hve
      replace hc := Lib.hid hc
      have hpre := Lib.hid (show Blk (wr.alloc (.cells Y 47)) wr.heap.size Y 47 ∧ NwI w (wr.alloc (.cells Y 47)) M q dq fl t k sT ∧ M + 2 ≤ wr.heap.size from ⟨Blk.new _ _ _, hI2.mod ((Mod.refl _ _).alloc _), hI2.sz⟩)
      clear hI2
      replace hYs := Lib.hid hYs
      replace hY1 := Lib.hid hY1
      go_upto_region 7 with (first | (refine wpList_load_v rfl 47 _ rfl (a.add (k * 5)) rfl _ hl.out ?_) |
        (refine wpList_store_new rfl 47 _ _ rfl rfl rfl _ Y _ rfl hYs.out.symm hY1.out (by rw [hYs.out]; kernel_rfl) ?_))
      generalize wr.heap.size = g at *
      refine wp_world' (fun wx => Blk wx g Y 47 ∧ NwI w wx M q dq fl t k sT ∧ M + 2 ≤ g) hpre.out ?_
      clear hpre hl
      rintro w3 ⟨hG, hI, hg⟩
      have hlv := Lib.hid (fun wx (h : Blk wx g Y 47) => run_load_row (P := Try.prog) wx g 47 Y _ _ h Try.underlying47 rfl (by rw [hYs.out]; kernel_rfl))
      have hlw := Lib.hid (hlv.out _ hG)
      replace hG := Lib.hid hG
      replace hI := Lib.hid hI
      go_wp2_with (refine wpList_load_v rfl 47 _ rfl ⟨g, 0, none⟩ rfl _ hlw.out ?_)
      refine (hve.out _).mono ?_
      rintro e w4 ⟨rfl, hb4⟩
      replace hG := Lib.hid (hG.out.mod ((Mod.refl (fun _ => False) w3).after hb4) (fun h => h))
      replace hI := Lib.hid (hI.out.mod ((Mod.refl (fun _ => False) w3).after hb4))
      clear hb4 hlw hve
      by_cases hc0 : c = 0
      · subst hc0
        replace hR := Lib.hid (show ∀ (j : Nat) (v : Ve), j < k + 1 → fl[j]? = some v → vehV v = 0 from fun j u hj hu => by
          by_cases e : j = k
          · subst e; rw [hvk.out] at hu; cases hu; exact hc.out
          · exact hR.out j u (by omega) hu)
        obtain ⟨pT', mT', cT', rfl⟩ := own_isS hI.out.own
        have hls := Lib.hid (fun W (h : Mod (fun k => M + 2 ≤ k) w4 W) => run_cellTr ((hI.out.box.mod h (by omega)).cell (i := 1) rfl))
        have hce := Lib.hid (fun W (h : Mod (fun k => M + 2 ≤ k) w4 W) => (hI.out.box.mod h (by omega)).cell (i := 1) rfl)
        have hfz := Lib.hid (fun W (h : Mod (fun k => M + 2 ≤ k) w4 W) => (hI.out.box.mod h (by omega)).froz 1)
        have hsz := Lib.hid hI.out.sz
        have ho := Lib.hid hI.out.own
        have hlen : k ≤ 100000 := by omega
        have hold := Lib.hid (show (trs0 fl k).flatten ++ trV v (none, 0) 0 = (trs0 fl (k + 1)).flatten from hsuc.out.symm)
        generalize (trs0 fl k).flatten = xs at ho hold
        go_upto_region 9 with fail
        refine wp_region_rove (X := Nat × Value) (0, undef) (fun x => [(31, .pointer (some ⟨M + 1, 0, none⟩)), (32, .pointer (some ⟨M + 1, 0, none⟩)), (33, .pointer (some ⟨M + 1, 0, none⟩)), (34, .pointer (some ⟨M + 1, 1, none⟩)), (35, .slice pT' mT' cT'), (36, .agg Y), (37, .agg (trV v (none, 0) 0).toArray), (38, .slice (some ⟨x.1, 0, none⟩) 1 1), (39, x.2), (40, .pointer (some ⟨M + 1, 0, none⟩)), (41, .pointer (some ⟨M + 1, 1, none⟩))])
          (fun x d W' => ClN (fun W => Mod (fun k => M + 2 ≤ k) w4 W ∧ Blk W g Y 47) (fun W => W.ownsRow (M + 2) 78 6 (.slice pT' mT' cT') k xs) (fun b W => Blk W b (trV v (none, 0) 0).toArray 78 ∧ M + 2 ≤ b) (fun v' W => W.ownsRow (M + 2) 78 6 v' (k + 1) (xs ++ trV v (none, 0) 0)) ⟨M + 1, 1, none⟩ x (d 7) (d 8) (d 11) W') (by kernel_rfl) (by kernel_rfl) (by kernel_rfl) (by kernel_rfl) (fun x => by kernel_rfl)
          ⟨_, rfl, ⟨(Mod.refl _ _).drew, hG.out.drew⟩, (fun h => by cases h), fun _ => ⟨ho.out.drew, fun h => by cases h⟩⟩ ?_ ?_
        · intro aF hAF
          have E6 : ∀ x, (aF x).eval (.tmp 6) = .pointer (some ⟨M + 1, 0, none⟩) := by intro x; rw [hAF]; kernel_rfl
          have E8 : ∀ x, (aF x).eval (.tmp 8) = .pointer (some ⟨g, 0, none⟩) := by intro x; rw [hAF]; kernel_rfl
          have T31 : ∀ x, (aF x).tmps[31]? = some (.pointer (some ⟨M + 1, 0, none⟩)) := by intro x; rw [hAF]; kernel_rfl
          have E31 : ∀ x, (aF x).eval (.tmp 31) = .pointer (some ⟨M + 1, 0, none⟩) := by intro x; rw [hAF]; kernel_rfl
          have T32 : ∀ x, (aF x).tmps[32]? = some (.pointer (some ⟨M + 1, 0, none⟩)) := by intro x; rw [hAF]; kernel_rfl
          have E32 : ∀ x, (aF x).eval (.tmp 32) = .pointer (some ⟨M + 1, 0, none⟩) := by intro x; rw [hAF]; kernel_rfl
          have T33 : ∀ x, (aF x).tmps[33]? = some (.pointer (some ⟨M + 1, 0, none⟩)) := by intro x; rw [hAF]; kernel_rfl
          have E33 : ∀ x, (aF x).eval (.tmp 33) = .pointer (some ⟨M + 1, 0, none⟩) := by intro x; rw [hAF]; kernel_rfl
          have T34 : ∀ x, (aF x).tmps[34]? = some (.pointer (some ⟨M + 1, 1, none⟩)) := by intro x; rw [hAF]; kernel_rfl
          have E34 : ∀ x, (aF x).eval (.tmp 34) = .pointer (some ⟨M + 1, 1, none⟩) := by intro x; rw [hAF]; kernel_rfl
          have T35 : ∀ x, (aF x).tmps[35]? = some (.slice pT' mT' cT') := by intro x; rw [hAF]; kernel_rfl
          have E35 : ∀ x, (aF x).eval (.tmp 35) = .slice pT' mT' cT' := by intro x; rw [hAF]; kernel_rfl
          have T36 : ∀ x, (aF x).tmps[36]? = some (.agg Y) := by intro x; rw [hAF]; kernel_rfl
          have E36 : ∀ x, (aF x).eval (.tmp 36) = .agg Y := by intro x; rw [hAF]; kernel_rfl
          have T37 : ∀ x, (aF x).tmps[37]? = some (.agg (trV v (none, 0) 0).toArray) := by intro x; rw [hAF]; kernel_rfl
          have E37 : ∀ x, (aF x).eval (.tmp 37) = .agg (trV v (none, 0) 0).toArray := by intro x; rw [hAF]; kernel_rfl
          have T38 : ∀ x, (aF x).tmps[38]? = some (.slice (some ⟨x.1, 0, none⟩) 1 1) := by intro x; rw [hAF]; kernel_rfl
          have E38 : ∀ x, (aF x).eval (.tmp 38) = .slice (some ⟨x.1, 0, none⟩) 1 1 := by intro x; rw [hAF]; kernel_rfl
          have T39 : ∀ x, (aF x).tmps[39]? = some (x.2) := by intro x; rw [hAF]; kernel_rfl
          have E39 : ∀ x, (aF x).eval (.tmp 39) = x.2 := by intro x; rw [hAF]; kernel_rfl
          have T40 : ∀ x, (aF x).tmps[40]? = some (.pointer (some ⟨M + 1, 0, none⟩)) := by intro x; rw [hAF]; kernel_rfl
          have E40 : ∀ x, (aF x).eval (.tmp 40) = .pointer (some ⟨M + 1, 0, none⟩) := by intro x; rw [hAF]; kernel_rfl
          have T41 : ∀ x, (aF x).tmps[41]? = some (.pointer (some ⟨M + 1, 1, none⟩)) := by intro x; rw [hAF]; kernel_rfl
          have E41 : ∀ x, (aF x).eval (.tmp 41) = .pointer (some ⟨M + 1, 1, none⟩) := by intro x; rw [hAF]; kernel_rfl
          replace hAF := Lib.hid hAF
          refine ⟨?_, ?_, ?_, ?_, ?_, ?_, ?_, ?_, ?_, ?_, ?_, ?_, trivial⟩
          · exact opOk3_quiet _ (by intro x t hd _; cases hd; exact T31 x) (fun _ => rfl) fun x d w' hd hc => sv (run_mov rfl (E6 x)) hc
          · exact opOk3_quiet _ (by intro x t hd _; cases hd; exact T32 x) (fun _ => rfl) fun x d w' hd hc => sv (run_mov rfl (E6 x)) hc
          · exact opOk3_quiet _ (by intro x t hd _; cases hd; exact T33 x) (fun _ => rfl) fun x d w' hd hc => sv (run_nilP rfl (E32 x)) hc
          · exact opOk3_quiet _ (by intro x t hd _; cases hd; exact T34 x) (fun _ => rfl) fun x d w' hd hc => sv (run_fldT rfl (E33 x) (fun _ => by kernel_rfl)) hc
          · exact opOk3_quietL _ (by intro x t hd _; cases hd; exact T35 x) (fun _ => rfl) fun x d w' hd hn hc => sv (run_load1 rfl (E34 x) (hls.out _ (by have n := hn 11 (by kernel_rfl); rw [n] at hc; exact (ClN.j hc).1))) hc
          · exact opOk3_quietL _ (by intro x t hd _; cases hd; exact T36 x) (fun _ => rfl) fun x d w' hd hn hc => sv (run_load1 rfl (E8 x) (hlv.out _ (by have n := hn 11 (by kernel_rfl); rw [n] at hc; exact (ClN.j hc).2))) hc
          · exact opOk3_quiet _ (by intro x t hd _; cases hd; exact T37 x) (fun _ => rfl) fun x d w' hd hc => sv (run_bldTr rfl ((E36 x).trans (by rw [hY.out]))) hc
          · exact opOk3_loud rfl fun x d w' hd hn hc => by
                have n8 : d 8 = false := hn 8 (by kernel_rfl)
                have n11 : d 11 = false := hn 11 (by kernel_rfl)
                rw [n8, n11] at hc
                refine sk_v (run_bslTr rfl (E37 x)) ⟨(w'.heap.size, x.2), (by rw [hAF.out]; exact agree_set 7 (38, .slice (some ⟨x.1, 0, none⟩) 1 1) rfl (by kernel_rfl)), (by intro t hd _; cases hd; exact T38 _), ?_⟩
                show ClN _ _ _ _ _ (w'.heap.size, x.2) true (d 8) (d 11) _
                rw [n8, n11]
                obtain ⟨W0, rfl, ⟨hJ1, hJ2⟩, _, h8⟩ := hc
                exact ⟨_, rfl, ⟨hJ1.alloc _, hJ2.alloc _⟩, (fun h => by cases h), fun _ => ⟨own_mod (h8 rfl).1 ((Mod.refl (fun _ => False) _).alloc _) (fun _ _ h => h), fun _ => ⟨Blk.new _ _ _, Nat.le_trans hsz.out hJ1.size⟩⟩⟩
          · exact opOk3_loud rfl fun x d w' hd hn hc => by
                have n7 : d 7 = true := hd 7 (by kernel_rfl)
                have n11 : d 11 = false := hn 11 (by kernel_rfl)
                have n8 : d 8 = false := hn 8 (by kernel_rfl)
                rw [n7, n8, n11] at hc
                obtain ⟨W0, rfl, ⟨hJ1, hJ2⟩, _, h8⟩ := hc
                obtain ⟨hO, hR2⟩ := h8 rfl
                obtain ⟨hB, _⟩ := hR2 rfl
                refine sk_app tr_el (M + 2) (Nat.le_trans hsz.out hJ1.size) _ k xs rfl (E35 x) hO hlen ⟨x.1, 0, none⟩ 1 1 (trV v (none, 0) 0) (E38 x) rfl (by omega) (row_cells hB) (tr_one _ _ _) ?_
                intro v' w'' h2 h3
                refine ⟨(x.1, v'), (by rw [hAF.out]; exact agree_set 8 (39, x.2) rfl (by kernel_rfl)), (by intro t hd _; cases hd; exact T39 _), ?_⟩
                show ClN _ _ _ _ _ (x.1, v') (d 7) true (d 11) _
                rw [n11]
                exact ⟨_, rfl, ⟨hJ1.grown h3 (fun k hk _ => (own_blk_lt hO hk).1), hJ2.mod ((Mod.refl (fun g' => (Value.slice pT' mT' cT').ownBlock = some g') _).grown h3 (fun _ h _ => h)) (fun e => own_ne hO e hJ2 (by decide) rfl)⟩, (fun _ => h2), fun h => by cases h⟩
          · exact opOk3_quiet _ (by intro x t hd _; cases hd; exact T40 x) (fun _ => rfl) fun x d w' hd hc => sv (run_nilP rfl (E31 x)) hc
          · exact opOk3_quiet _ (by intro x t hd _; cases hd; exact T41 x) (fun _ => rfl) fun x d w' hd hc => sv (run_fldT rfl (E40 x) (fun _ => by kernel_rfl)) hc
          · exact opOk3_loud rfl fun x d w' hd hn hc => by
                have n8 : d 8 = true := hd 8 (by kernel_rfl)
                have n11 : d 11 = false := hn 11 (by kernel_rfl)
                rw [n8, n11] at hc
                obtain ⟨W0, rfl, hJ, hO', _⟩ := hc
                replace hO' := hO' rfl
                obtain ⟨p5, m5, c5, e5⟩ := own_isS hO'
                refine sk_s (run_storeTS rfl (E41 x) ((E39 x).trans e5) (hce.out _ hJ.1) (hfz.out _ hJ.1)) ⟨x, agree_same _ _, (by intro t hd _; cases hd), ?_⟩
                show ClN _ _ _ _ _ x (d 7) (d 8) true _
                rw [n8]
                exact ⟨_, (by rw [e5]; rfl), hJ, (fun _ => hO'), fun h => by cases h⟩
        · intro x d w' hd hc
          simp only [putAll, List.foldl_cons, List.foldl_nil, Act.put, List.setIfInBounds_toArray, List.set_cons_succ, List.set_cons_zero]
          obtain ⟨W0, hW, hJ, hO', _⟩ := hc
          have d8 := hd 8 (by decide)
          have d11 := hd 11 (by decide)
          rw [d11] at hW
          replace hO' := hO' d8
          rw [hold.out] at hO'
          obtain ⟨n5, v5⟩ := x
          obtain ⟨p5, m5, c5, rfl⟩ := own_isS hO'
          have hI5 := Lib.hid (hI.out.next hJ.1 hO')
          have hW5 : w' = W0.setCell ⟨M + 1, 1, none⟩ (.slice p5 m5 c5) := hW
          replace hI := Lib.hid (show NwI w w' M q dq fl t (k + 1) (.slice p5 m5 c5) from hW5 ▸ hI5.out)
          clear hJ hO' hls hce hfz ho hold hG hlv hW hW5 hI5 hd
          go_wp2_with fail
          go_roundw
          case rel => exact ⟨k + 1, _, by omega, by simp, hR, hI.out⟩
          case measure => simp [intOf]; omega
      · have hc0' : (c == 0) = false := beq_eq_false_iff_ne.2 hc0
        have h2 := Lib.hid (newC_bad hN.out hvk.out (by rw [hc.out]; exact hc0))
        go_wp2_with fail
        go_ret2
        exact ⟨hI.out.low, .inl ⟨by rw [h2.out]; decide, by rw [h2.out]; rfl⟩⟩
    · obtain rfl : k = n := by omega
      have hN2 := Lib.hid (newC_ok hN.out (fun j v hj hv => hR.out j v (by rw [← hn.out]; exact hj) hv))
      have hc := Lib.hid (hcnt.out _ hI2.low)
      replace hI2 := Lib.hid hI2
      clear hR hcnt hF
      go_wp2_with fail
      refine hc.out.mono ?_
      rintro e w3 ⟨rfl, hb3⟩
      replace hI2 := Lib.hid (hI2.out.mod ((Mod.refl (fun _ => False) wr).after hb3))
      clear hb3 hc
      cases tb with
      | true =>
        go_wp2_with fail
        go_ret2
        exact ⟨hI2.out.low, .inl ⟨by rw [hN2.out]; decide, by rw [hN2.out]; rfl⟩⟩
      | false =>
        go_wp2_with fail
        go_ret2
        have hI3 := hI2.out
        rw [← hn.out] at hI3 hbig
        obtain ⟨gT, F, h1, h2⟩ := hI3.plan hbig hdq
        exact ⟨hI3.low, .inr ⟨by rw [hN2.out]; rfl, M + 1, gT, M, F, rfl, h1, h2⟩⟩
end Go.Proofs.Ytpbmeeogledmdae
