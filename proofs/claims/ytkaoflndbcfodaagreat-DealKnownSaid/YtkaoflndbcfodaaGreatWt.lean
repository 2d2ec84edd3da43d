/-
  Go's slices: Index, IndexFunc, DeleteFunc, Clone, at stops; layer 6, the program's: At, Without.
-/
import Derived.Test.YtkaoflndbcfodaaGreatWi
import Derived.Test.YtkaoflndbcfodaaGreatRt
import Derived.Lib.SliceRun
namespace Go.Proofs.YtkaoflndbcfodaaGreat
open Go.RowKit

/-- the first place where it holds, or -1 -/
def fstI {α : Type} (P : α → Bool) (l : List α) : Int := match l.findIdx? P with | some k => (k : Int) | none => -1
theorem fstI_hit {α : Type} {P : α → Bool} {l : List α} {k : Nat} (hk : k < l.length) (h : P l[k] = true) (hn : ∀ j x, j < k → l[j]? = some x → P x = false) : fstI P l = k := by
  have : l.findIdx? P = some k := by
    rw [List.findIdx?_eq_some_iff_getElem]
    refine ⟨hk, h, fun j hj => ?_⟩
    rw [hn j _ hj (List.getElem?_eq_getElem (by omega))]
    decide
  unfold fstI
  rw [this]
theorem fstI_none {α : Type} {P : α → Bool} {l : List α} (hn : ∀ j x, j < l.length → l[j]? = some x → P x = false) : fstI P l = -1 := by
  have : l.findIdx? P = none := by
    rw [List.findIdx?_eq_none_iff]
    intro x hx
    obtain ⟨j, hj, rfl⟩ := List.getElem_of_mem hx
    exact hn j _ hj (List.getElem?_eq_getElem hj)
  unfold fstI
  rw [this]


set_option maxRecDepth 100000 in
theorem indexF_stop (p : Option Addr) (c : Nat) (R : List (Int × Int)) (f : FuncId) (caps : Array Value) (Pd : Int × Int → Bool) (w : World) (hE : Els w p 2 (R.map stV)) (eg : ∀ args w, (callFunc f args).run Tryz.prog w = .ok (.enter f args) w)
    (hf : ∀ r ∈ R, ∀ wx, Below w.heap.size w wx → Calls Tryz.prog f (#[.agg #[.int .i64 r.1, .int .i64 r.2]] ++ caps) wx fun e w' => e = .returned (.bool (Pd r)) ∧ Below wx.heap.size wx w') :
    Calls Tryz.prog 84 #[.slice p R.length c, .func (.func f) #[] caps] w fun e w' => e = .returned (.int .i64 (fstI Pd R)) ∧ Below w.heap.size w w' := by
  have hb : R.length ≤ 140737488351232 := by simpa using hE.big
  have hit := Lib.hid (fun (k : Nat) (hk : k < R.length) h hn => fstI_hit (P := Pd) hk h hn)
  have hno := Lib.hid (fun hn => fstI_none (P := Pd) (l := R) hn)
  generalize fstI Pd R = X at hit hno ⊢
  replace hE := Lib.hid hE
  replace hf := Lib.hid hf
  go_enter Tryz.func84, Tryz.ntmps84
  go_wp2_with fail
  go_loopw [8] (fun i wr => ∃ k : Nat, k ≤ R.length ∧ i = .int .i64 k ∧ Hid (∀ (j : Nat) (r : Int × Int), j < k → R[j]? = some r → Pd r = false) ∧ Below w.heap.size w wr) (fun i _ => R.length - (intOf i).toNat)
  case atStart => exact ⟨0, Nat.zero_le _, rfl, Lib.hid (fun j r h => by omega), Below.refl _ _⟩
  case round =>
    obtain ⟨k, hk, rfl, hR, hbr⟩ := hrel
    by_cases hlt : k < R.length
    · have hltI : (k : Int) < (R.length : Int) := by omega
      have s1 : IntKind.i64.wrap ((k : Int) + 1) = (k : Int) + 1 := IntWalk.i64_in _ (by omega)
      obtain ⟨a, rfl⟩ := (hE.out.below hbr).some_of (k := k) (by simpa using hlt)
      have hc : Hid ((loadVar 125 (a.add (k * 2))).run Tryz.prog wr = .ok (.agg #[.int .i64 R[k].1, .int .i64 R[k].2]) wr) := Lib.hid (by
        have := (hE.out.below hbr).load (P := Tryz.prog) (a := a) rfl (k := k) (by simpa using hlt) (ty := 125) Tryz.underlying125 rfl (by kernel_rfl)
        rw [List.getElem_map] at this
        exact this)
      have hfk := Lib.hid (hf.out _ (List.getElem_mem hlt) wr hbr)
      have hok : Hid (Pd R[k] = false → ∀ (j : Nat) (r : Int × Int), j < k + 1 → R[j]? = some r → Pd r = false) := Lib.hid (fun h j u hj hju => by
        by_cases e : j = k
        · subst e; rw [List.getElem?_eq_getElem hlt] at hju; cases hju; exact h
        · exact hR.out j u (by omega) hju)
      have hhit := Lib.hid (fun h => hit.out k hlt h hR.out)
      clear hit hno
      generalize R[k] = r at hc hfk hok hhit
      generalize Pd r = b at hfk hok hhit
      clear hR
      go_wp2_with (first | (refine wpList_load_v rfl 125 _ rfl (a.add (k * 2)) rfl _ hc.out ?_))
      refine hfk.out.mono ?_
      rintro e w2 ⟨rfl, hb2⟩
      replace hb2 := hbr.trans (hb2.mono hbr.size)
      clear hfk hbr hc
      cases b with
      | true =>
        obtain rfl : X = (k : Int) := hhit.out rfl
        clear hhit hok
        go_wp2
        go_ret
        exact ⟨rfl, hb2⟩
      | false =>
        have hok' := Lib.hid (hok.out rfl)
        clear hhit hok
        go_wp2_with fail
        go_roundw
        case rel => exact ⟨k + 1, by omega, by simp, hok', hb2⟩
        case measure => simp [intOf]; omega
    · obtain rfl : k = R.length := by omega
      obtain rfl : X = -1 := hno.out hR.out
      clear hR hno hit
      go_wp2
      go_ret
      exact ⟨rfl, hbr⟩

/-- a stop lies at a place of a row -/
def StC (D : Array Value) (k : Nat) (s : Int × Int) : Prop := D[k * 2]? = some (.int .i64 s.1) ∧ D[k * 2 + 1]? = some (.int .i64 s.2)
def StR (D : Array Value) (R : List (Int × Int)) : Prop := ∀ (k : Nat) (s : Int × Int), R[k]? = some s → StC D k s
theorem ownS_blk {w : World} {base n k cap : Nat} {E : TypeId} {p : Option Addr} {xs : List Value} (h : w.ownsRow base E n (.slice p k cap) k xs) (hk : 0 < k) :
    ∃ (g : Nat) (C : Array Value), p = some ⟨g, 0, none⟩ ∧ Blk w g C E ∧ base ≤ g ∧ ∀ (j : Nat) (v : Value), xs[j]? = some v → C[j]? = some v := by
  rcases h.2 with ⟨hv, _⟩ | ⟨g, cap', cur, hv, hg, hh, _, _, _, ht⟩
  · simp only [Value.slice.injEq] at hv
    omega
  · simp only [Value.slice.injEq] at hv
    refine ⟨g, cur, hv.1, hh, hg, fun j v hj => ?_⟩
    rw [← ht] at hj
    have hlt := (List.getElem?_eq_some_iff.1 hj).1
    rw [List.length_take] at hlt
    rw [List.getElem?_take_of_lt (by omega)] at hj
    simpa using hj
theorem stR_of {C : Array Value} {R : List (Int × Int)} (h : ∀ (j : Nat) (v : Value), (R.map stV).flatten[j]? = some v → C[j]? = some v) : StR C R := fun k s hs =>
  ⟨h _ _ (by have := flat_at (n := 2) (R.map stV) k 0 (stV s) (.int .i64 s.1) (stV_len R) (by rw [List.getElem?_map, hs]; rfl) rfl; simpa using this),
   h _ _ (flat_at (n := 2) (R.map stV) k 1 (stV s) (.int .i64 s.2) (stV_len R) (by rw [List.getElem?_map, hs]; rfl) rfl)⟩
theorem stR_els {w : World} {g : Nat} {C : Array Value} {R : List (Int × Int)} {E : TypeId} (h : StR C R) (hB : Blk w g C E) (hl : R.length ≤ 140737488351232) : Els w (some ⟨g, 0, none⟩) 2 (R.map stV) :=
  ⟨fun e => (by cases e), stV_len R, by rw [List.length_map]; exact hl, fun a ha k x j v hk hj => by
    cases ha
    rw [List.getElem?_map] at hk
    simp only [Option.map_eq_some_iff] at hk
    obtain ⟨s, hs, rfl⟩ := hk
    obtain ⟨h1, h2⟩ := h k s hs
    rw [add0]
    match j with
    | 0 => cases hj; exact hB.cell h1
    | 1 => cases hj; exact hB.cell h2
    | j + 2 => simp [stV] at hj⟩
theorem run_nilS {ρ : Operand → Value} {o : Oper} {w : World} {x : Operand} {p : Option Addr} {n c : Nat} (ho : o.op = .binOp .eql 82 x (.const (.slice none 0 0)) 82) (hx : ρ x = .slice p n c) (hc : ρ (.const (.slice none 0 0)) = .slice none 0 0 := by rfl) :
    (execOp ρ o).run Tryz.prog w = .ok (.value (.bool p.isNone)) w := by
  have h := Lib.run_eql_slice_nil (P := Tryz.prog) w 82 125 p n c 0 0 Tryz.underlying82
  cases p <;> (unfold execOp; simp only [ho, hx, hc]; go_simp)
theorem rsl_stZ (w : World) : (Instr.buildSlice 82 0 #[]).run Tryz.prog w = .ok (.slice (some ⟨w.heap.size, 0, none⟩) 0 0) (w.alloc (.cells #[] 125)) := by kernel_rfl
/-- what Clone hands back -/
def ClPost (w : World) (l : List (Int × Int)) (e : Ending) (w' : World) : Prop :=
  Below w.heap.size w w' ∧ ∃ q d, e = .returned (.slice q l.length d) ∧ (l.length ≤ d ∧ d ≤ 9223372036854775807) ∧ Els w' q 2 (l.map stV) ∧
    (0 < l.length → ∃ (g : Nat) (C : Array Value), q = some ⟨g, 0, none⟩ ∧ w.heap.size ≤ g ∧ Blk w' g C 125 ∧ StR C l)
set_option maxHeartbeats 1000000 in
set_option maxRecDepth 100000 in
theorem clone_calls (p : Option Addr) (c : Nat) (l : List (Int × Int)) (w : World) (hE : Els w p 2 (l.map stV)) (hl : l.length ≤ 1000) :
    Calls Tryz.prog 57 #[.slice p l.length c] w (ClPost w l) := by
  cases p with
  | none =>
    have h0 : l = [] := by have := hE.nil rfl; simpa using this
    subst h0
    clear hE
    show Calls Tryz.prog 57 #[.slice none 0 c] w _
    go_enter Tryz.func57, Tryz.ntmps57
    go_wp2_with (refine wpList_v rfl (.bool true) (run_nilS (p := none) rfl rfl) ?_)
    go_ret
    exact ⟨Below.refl _ _, none, 0, rfl, ⟨Nat.le_refl _, by omega⟩, ⟨fun _ => rfl, fun x hx => (by cases hx), by simp, fun a ha => by cases ha⟩, fun h => by cases h⟩
  | some a =>
    have ho1 := Lib.hid (World.ownsRow_made (base := w.heap.size) (e := 125) (size := 2) w #[] 0 (Nat.le_refl _) (by unfold maxLen; omega) rfl)
    have hlow1 := Lib.hid (new_below w (.cells #[] 125))
    have hEA := Lib.hid (hE.below hlow1.out)
    have hz1 := Lib.hid hlow1.out.size
    have hTl := Lib.hid (show l.length = (l.map stV).length by rw [List.length_map])
    have hall := Lib.hid (stV_all l)
    replace hE := Lib.hid hE
    go_enter Tryz.func57, Tryz.ntmps57
    go_wp2_with (first | (refine wpList_v rfl (.bool false) (run_nilS (p := some a) rfl rfl) ?_) | (refine wpList_bs0 rfl 82 0 rfl _ _ (rsl_stZ _) ?_) |
      (refine wpList_appE st_el rfl _ _ rfl w.heap.size hz1.out _ 0 [] rfl ho1.out (by omega) (some a) l.length c _ rfl hEA.out hTl.out (by omega) hall.out ?_; intro v6 w6 hO6 hg6))
    have hlow6 := grown_low hlow1.out (Nat.le_refl _) (Nat.le_refl _) ho1.out hg6
    rw [Nat.zero_add, List.nil_append] at hO6
    obtain ⟨qO, nO, dO, rfl⟩ := own_isS hO6
    obtain ⟨hEO, hnO, hdO, _⟩ := own_els (R := l.map stV) (stV_len _) (by rw [List.length_map]; exact hO6) (by rw [List.length_map]; omega)
    rw [List.length_map] at hnO
    subst hnO
    have hcap := own_cap hO6
    have hown : 0 < l.length → ∃ (g : Nat) (C : Array Value), qO = some ⟨g, 0, none⟩ ∧ w.heap.size ≤ g ∧ Blk w6 g C 125 ∧ StR C l := fun h0 => by
      obtain ⟨g, C, h1, h2, h3, h4⟩ := ownS_blk hO6 h0
      exact ⟨g, C, h1, h3, h2, stR_of h4⟩
    clear ho1 hlow1 hEA hz1 hg6 hO6 hall hTl
    go_wp2_with fail
    go_ret
    exact ⟨hlow6, qO, dO, rfl, ⟨hdO, hcap⟩, hEO, hown⟩

/-- those that stay -/
def keepL (Pd : Int × Int → Bool) (l : List (Int × Int)) : List (Int × Int) := l.filter fun s => !Pd s
theorem keepL_succ (Pd : Int × Int → Bool) (l : List (Int × Int)) {j : Nat} (hj : j < l.length) : keepL Pd (l.take (j + 1)) = keepL Pd (l.take j) ++ if Pd l[j] = true then [] else [l[j]] := by
  unfold keepL
  rw [List.take_succ_eq_append_getElem hj, List.filter_append]
  cases h : Pd l[j] <;> simp [h]
theorem keepL_len (Pd : Int × Int → Bool) (l : List (Int × Int)) : (keepL Pd l).length ≤ l.length := List.length_filter_le _ _
theorem keepL_all {Pd : Int × Int → Bool} {l : List (Int × Int)} (h : ∀ (j : Nat) (s : Int × Int), j < l.length → l[j]? = some s → Pd s = false) : keepL Pd l = l := by
  unfold keepL
  rw [List.filter_eq_self]
  intro s hs
  obtain ⟨j, hj, rfl⟩ := List.getElem_of_mem hs
  rw [h j _ hj (List.getElem?_eq_getElem hj)]
  rfl
theorem fstI_cases {α : Type} (P : α → Bool) (l : List α) : (fstI P l = -1 ∧ ∀ (j : Nat) (x : α), j < l.length → l[j]? = some x → P x = false) ∨ ∃ (k : Nat) (h : k < l.length), fstI P l = k ∧ P l[k] = true ∧ ∀ (j : Nat) (x : α), j < k → l[j]? = some x → P x = false := by
  cases h : l.findIdx? P with
  | none =>
    left
    refine ⟨by unfold fstI; rw [h], fun j x _ hx => ?_⟩
    exact (List.findIdx?_eq_none_iff.1 h) x (List.mem_of_getElem? hx)
  | some k =>
    right
    obtain ⟨hk, h1, h2⟩ := List.findIdx?_eq_some_iff_getElem.1 h
    refine ⟨k, hk, by unfold fstI; rw [h], h1, fun j x hj hx => ?_⟩
    have := h2 j hj
    rw [List.getElem?_eq_getElem (by omega)] at hx
    cases hx
    simpa using this
/-- a row in which the first m stay, and those from j on are as they were -/
def DfC (Pd : Int × Int → Bool) (l : List (Int × Int)) (n j m : Nat) (D : Array Value) : Prop :=
  D.size = n ∧ m = (keepL Pd (l.take j)).length ∧ m < j ∧ StR D (keepL Pd (l.take j)) ∧ ∀ (k : Nat) (s : Int × Int), j ≤ k → l[k]? = some s → StC D k s
theorem dfC_start {Pd : Int × Int → Bool} {l : List (Int × Int)} {D : Array Value} {k : Nat} (hR : StR D l) (hk : k < l.length) (h1 : Pd l[k] = true) (hn : ∀ (j : Nat) (x : Int × Int), j < k → l[j]? = some x → Pd x = false) : DfC Pd l D.size (k + 1) k D := by
  have e : keepL Pd (l.take k) = l.take k := keepL_all (fun j s hj hs => by
    rw [List.length_take] at hj
    rw [List.getElem?_take_of_lt (by omega)] at hs
    exact hn j s (by omega) hs)
  have e2 : keepL Pd (l.take (k + 1)) = l.take k := by rw [keepL_succ Pd l hk, if_pos h1, e, List.append_nil]
  refine ⟨rfl, by rw [e2, List.length_take]; omega, by omega, ?_, fun j s _ hs => hR j s hs⟩
  rw [e2]
  intro j s hs
  rw [List.getElem?_take] at hs
  split at hs
  · exact hR j s hs
  · cases hs
theorem dfC_skip {Pd : Int × Int → Bool} {l : List (Int × Int)} {n j m : Nat} {D : Array Value} (h : DfC Pd l n j m D) (hj : j < l.length) (hp : Pd l[j] = true) : DfC Pd l n (j + 1) m D := by
  obtain ⟨h0, h1, h2, h3, h4⟩ := h
  have e : keepL Pd (l.take (j + 1)) = keepL Pd (l.take j) := by rw [keepL_succ Pd l hj, if_pos hp, List.append_nil]
  exact ⟨h0, by rw [e]; exact h1, by omega, by rw [e]; exact h3, fun k s hk hs => h4 k s (by omega) hs⟩
theorem dfC_put {Pd : Int × Int → Bool} {l : List (Int × Int)} {n j m : Nat} {D D' : Array Value} (h : DfC Pd l n j m D) (hj : j < l.length) (hp : Pd l[j] = false) (hs : D'.size = D.size)
    (hg : ∀ i : Nat, D'[i]? = if m * 2 ≤ i ∧ i < m * 2 + 2 then (#[Value.int .i64 l[j].1, .int .i64 l[j].2] : Array Value)[i - m * 2]? else D[i]?) : DfC Pd l n (j + 1) (m + 1) D' := by
  obtain ⟨h0, h1, h2, h3, h4⟩ := h
  have e : keepL Pd (l.take (j + 1)) = keepL Pd (l.take j) ++ [l[j]] := by rw [keepL_succ Pd l hj, if_neg (by rw [hp]; decide)]
  refine ⟨by rw [hs, h0], by rw [e, List.length_append, ← h1]; rfl, by omega, ?_, fun k s hk hks => ?_⟩
  · rw [e]
    intro k s hks
    by_cases hkm : k < m
    · rw [List.getElem?_append_left (by omega)] at hks
      obtain ⟨g1, g2⟩ := h3 k s hks
      exact ⟨by rw [hg, if_neg (by omega)]; exact g1, by rw [hg, if_neg (by omega)]; exact g2⟩
    · rw [List.getElem?_append_right (by omega), ← h1] at hks
      have hkm' : k = m := by
        have := (List.getElem?_eq_some_iff.1 hks).1
        simp at this
        omega
      subst hkm'
      rw [Nat.sub_self] at hks
      cases hks
      exact ⟨by rw [hg, if_pos (by omega), Nat.sub_self]; rfl, by rw [hg, if_pos (by omega), show k * 2 + 1 - k * 2 = 1 by omega]; rfl⟩
  · obtain ⟨g1, g2⟩ := h4 k s (by omega) hks
    exact ⟨by rw [hg, if_neg (by omega)]; exact g1, by rw [hg, if_neg (by omega)]; exact g2⟩
theorem zero_cells (n : Nat) : ∀ v ∈ (Builtin.zeroCells #[Value.int .i64 0, .int .i64 0] n).toList, v.oneCell' = true := by
  intro v hv
  unfold Builtin.zeroCells at hv
  rw [Array.mem_toList_iff, Array.mem_map] at hv
  obtain ⟨i, _, rfl⟩ := hv
  have : i % 2 = 0 ∨ i % 2 = 1 := by omega
  show ((#[Value.int .i64 0, .int .i64 0] : Array Value)[i % 2]!).oneCell' = true
  rcases this with e | e <;> rw [e] <;> rfl
theorem st_zero (w : World) : (zeroValue 125).run Tryz.prog w = .ok (.agg #[.int .i64 0, .int .i64 0]) w := by kernel_rfl
/-- 'clear' of the end of a row of stops -/
theorem run_clearS {w : World} {g o n c : Nat} {D : Array Value} (hB : Blk w g D 125) (ho : o + n * 2 ≤ D.size) (ty : TypeId) :
    ∃ w' D', (Builtin.clear_ #[82] ty #[.slice (some ⟨g, o, none⟩) n c]).run Tryz.prog w = .ok (.tuple #[]) w' ∧ Blk w' g D' 125 ∧ Mod (· = g) w w' ∧ ∀ i, i < o → D'[i]? = D[i]? := by
  by_cases hn : n = 0
  · subst hn
    refine ⟨w, D, ?_, hB, Mod.refl _ _, fun _ _ => rfl⟩
    simp [Builtin.clear_, run_underlying Tryz.underlying82]
  · obtain ⟨m, rfl⟩ : ∃ m, n = m + 1 := ⟨n - 1, by omega⟩
    have hlen : (Builtin.zeroCells #[Value.int .i64 0, .int .i64 0] (m + 1)).toList.length = (m + 1) * 2 := by simp [Builtin.zeroCells]
    have e := run_storeCells_at (P := Tryz.prog) g o 125 (Builtin.zeroCells #[Value.int .i64 0, .int .i64 0] (m + 1)).toList 0 D w hB (by rw [hlen]; omega) (zero_cells _)
    rw [hlen] at e
    simp only [Nat.add_zero] at e
    have e' : (Builtin.clear_ #[82] ty #[.slice (some ⟨g, o, none⟩) (m + 1) c]).run Tryz.prog w = .ok (.tuple #[]) (w.setRow g (D.toList.take o ++ (Builtin.zeroCells #[Value.int .i64 0, .int .i64 0] (m + 1)).toList ++ D.toList.drop (o + (m + 1) * 2)).toArray) := by
      simp [Builtin.clear_, run_underlying Tryz.underlying82, Value.cells, e]
    refine ⟨_, _, e', setRow_heap w g D _ 125 (0, 0) hB, ⟨rfl, rfl, rfl, by simp [World.setRow], fun k _ hk => setRow_other w g k _ hk⟩, fun i hi => ?_⟩
    rw [List.getElem?_toArray, List.append_assoc, List.getElem?_append_left (by simp; omega), List.getElem?_take_of_lt hi, Array.getElem?_toList]
theorem exec_clearS {ρ : Operand → Value} {o : Oper} {w w' : World} {x : Operand} {v : Value} {ty : TypeId} (ho : o.op = .call { callee := .builtin .clear, args := #[x], argTypes := #[ty] }) (hx : ρ x = v) (h : (Builtin.clear_ #[ty] o.type #[v]).run Tryz.prog w = .ok (.tuple #[]) w') :
    (execOp ρ o).run Tryz.prog w = .ok (.value (.tuple #[])) w' := by
  unfold execOp
  simp only [ho, resolve, invoke, builtin, Sem.run_bind, Sem.run_pure, Result.andThen_ok, List.map_toArray, List.map_cons, List.map_nil, hx, h]
set_option maxHeartbeats 4000000 in
set_option maxRecDepth 100000 in
theorem delF_calls (g c : Nat) (D : Array Value) (l : List (Int × Int)) (f : FuncId) (caps : Array Value) (Pd : Int × Int → Bool) (w : World) (hB : Blk w g D 125) (hR : StR D l) (h0 : 0 < l.length) (hl : l.length ≤ 1000) (hc : l.length ≤ c ∧ c ≤ 9223372036854775807)
    (eg : ∀ args w, (callFunc f args).run Tryz.prog w = .ok (.enter f args) w)
    (hf : ∀ r ∈ l, ∀ wx, Mod (· = g) w wx → Calls Tryz.prog f (#[.agg #[.int .i64 r.1, .int .i64 r.2]] ++ caps) wx fun e w' => e = .returned (.bool (Pd r)) ∧ Below wx.heap.size wx w') :
    Calls Tryz.prog 56 #[.slice (some ⟨g, 0, none⟩) l.length c, .func (.func f) #[] caps] w fun e w' =>
      e = .returned (.slice (some ⟨g, 0, none⟩) (keepL Pd l).length c) ∧ Mod (· = g) w w' ∧ ∃ D', Blk w' g D' 125 ∧ StR D' (keepL Pd l) := by
  have hsz : l.length * 2 ≤ D.size := by
    have := (hR (l.length - 1) l[l.length - 1] (List.getElem?_eq_getElem (by omega))).2
    have := (Array.getElem?_eq_some_iff.1 this).1
    omega
  have hif := Lib.hid (indexF_stop (some ⟨g, 0, none⟩) c l f caps Pd w (stR_els hR hB (by omega)) eg (fun r hr wx hb => hf r hr wx ((Mod.refl _ w).after hb)))
  have hkl := keepL_len Pd l
  obtain ⟨R, hRe⟩ : ∃ R, keepL Pd l = R := ⟨_, rfl⟩
  rw [hRe] at hkl ⊢
  replace hf := Lib.hid hf
  replace hB := Lib.hid hB
  rcases fstI_cases Pd l with ⟨e1, hall⟩ | ⟨k0, hk0, e1, hp0, hn0⟩
  · rw [e1] at hif
    have e2 := keepL_all hall
    obtain rfl : R = l := hRe.symm.trans e2
    replace hR := Lib.hid hR
    clear hall e1 e2 hf hkl hRe
    go_enter Tryz.func56, Tryz.ntmps56
    go_wp2_with fail
    refine hif.out.mono ?_
    rintro e w1 ⟨rfl, hb1⟩
    have hm := (Mod.refl (· = g) w).after hb1
    have hB1 := hB.out.mod ((Mod.refl (fun _ => False) w).after hb1) (fun h => h)
    replace hB1 := Lib.hid hB1
    clear hif hb1
    go_wp2_with fail
    go_ret
    exact ⟨rfl, hm, D, hB1.out, hR.out⟩
  · rw [e1] at hif
    replace hRe := Lib.hid hRe
    have hst := Lib.hid (dfC_start hR hk0 hp0 hn0)
    generalize D.size = N at hst hsz
    clear hR e1 hp0 hn0
    have s0 : IntKind.i64.wrap ((k0 : Int) + 1) = (k0 : Int) + 1 := IntWalk.i64_in _ (by omega)
    go_enter Tryz.func56, Tryz.ntmps56
    go_wp2_with fail
    refine hif.out.mono ?_
    rintro e w1 ⟨rfl, hb1⟩
    have hm1 := (Mod.refl (· = g) w).after hb1
    have hB1 := hB.out.mod ((Mod.refl (fun _ => False) w).after hb1) (fun h => h)
    replace hB1 := Lib.hid hB1
    clear hif hb1
    have hne : ((k0 : Int) == -1) = false := by simp
    replace hm1 := Lib.hid hm1
    go_wp2_with fail
    clear hne
    go_loopw [5, 6] (fun i5 i6 wx => ∃ (j m : Nat) (D : Array Value), j ≤ l.length ∧ i6 = .int .i64 j ∧ i5 = .int .i64 m ∧ Hid (DfC Pd l N j m D) ∧ Blk wx g D 125 ∧ Mod (· = g) w wx) (fun _ i6 _ => l.length - (intOf i6).toNat)
    case atStart => exact ⟨k0 + 1, k0, D, by omega, by simp, rfl, hst, hB1.out, hm1.out⟩
    case round =>
      clear hst hB1 hm1 hB s0
      obtain ⟨j, m, D, hj, rfl, rfl, hD, hB, hm⟩ := hrel
      have hmj : m < j := hD.out.2.2.1
      have hDs : D.size = N := hD.out.1
      by_cases hlt : j < l.length
      · have hltI : (j : Int) < (l.length : Int) := by omega
        have s1 : IntKind.i64.wrap ((j : Int) + 1) = (j : Int) + 1 := IntWalk.i64_in _ (by omega)
        have s2 : IntKind.i64.wrap ((m : Int) + 1) = (m : Int) + 1 := IntWalk.i64_in _ (by omega)
        have hc1 : Hid ((loadVar 125 ⟨g, j * 2, none⟩).run Tryz.prog wr = .ok (.agg #[.int .i64 l[j].1, .int .i64 l[j].2]) wr) := Lib.hid (by
          obtain ⟨c1, c2⟩ := hD.out.2.2.2.2 j l[j] (Nat.le_refl _) (List.getElem?_eq_getElem hlt)
          have := load_part (P := Tryz.prog) wr g D 125 hB (j * 2) 2 (by omega) 125 _ Tryz.underlying125 rfl (by kernel_rfl)
          rw [ext_row (n := 2) (X := #[.int .i64 l[j].1, .int .i64 l[j].2]) (by omega) rfl (fun i hi => by
            match i, hi with
            | 0, _ => exact c1
            | 1, _ => exact c2)] at this
          exact this)
        have hB2 := hB.alloc (.cells #[.int .i64 l[j].1, .int .i64 l[j].2] 125)
        have hm2 := hm.alloc (.cells #[.int .i64 l[j].1, .int .i64 l[j].2] 125)
        have hbx := Blk.new wr #[.int .i64 l[j].1, .int .i64 l[j].2] 125
        have hfk := Lib.hid (fun wx hm => hf.out _ (List.getElem_mem hlt) wx hm)
        have hgr : g ≠ wr.heap.size := by have := hB.lt; omega
        have P1 := Lib.hid (show Blk (wr.alloc (.cells #[.int .i64 l[j].1, .int .i64 l[j].2] 125)) g D 125 ∧ Mod (· = g) w (wr.alloc (.cells #[.int .i64 l[j].1, .int .i64 l[j].2] 125)) ∧ Blk (wr.alloc (.cells #[.int .i64 l[j].1, .int .i64 l[j].2] 125)) wr.heap.size #[.int .i64 l[j].1, .int .i64 l[j].2] 125 from ⟨hB2, hm2, hbx⟩)
        have hskip := Lib.hid (fun hp => dfC_skip hD.out hlt hp)
        have hput := Lib.hid (fun hp D' hs hg => dfC_put (D' := D') hD.out hlt hp hs hg)
        clear hB hm hB2 hm2 hbx hD
        generalize l[j] = s at *
        obtain ⟨r, q⟩ := s
        dsimp only at *
        go_upto_region 8 with (first | (refine wpList_load_v rfl 125 _ rfl ⟨g, j * 2, none⟩ rfl _ hc1.out ?_) |
          (refine wpList_store_new rfl 125 _ _ rfl rfl rfl _ #[.int .i64 r, .int .i64 q] _ rfl rfl (by simp [Value.oneCell']) (by kernel_rfl) ?_))
        refine wp_world' (fun wx => Blk wx g D 125 ∧ Mod (· = g) w wx ∧ Blk wx wr.heap.size #[.int .i64 r, .int .i64 q] 125) P1.out ?_
        clear P1 hc1
        rintro w4 ⟨hB, hm, hbx⟩
        replace hfk := Lib.hid (hfk.out w4 hm)
        generalize Pd (r, q) = pb at hfk hskip hput
        have hlx := Lib.hid (fun wx (h : Below w4.heap.size w4 wx) => run_load_row' (P := Tryz.prog) wx wr.heap.size 125 #[.int .i64 r, .int .i64 q] 125 _ (hbx.mod ((Mod.refl (fun _ => False) _).after h) (fun h => h)) Tryz.underlying125 rfl (by kernel_rfl))
        have hl1 := Lib.hid (hlx.out w4 (Below.refl _ _))
        replace hB := Lib.hid hB
        replace hm := Lib.hid hm
        clear hbx
        go_wp2_with (first | (refine wpList_load_v rfl 125 _ rfl ⟨wr.heap.size, 0, none⟩ rfl _ hl1.out ?_))
        refine hfk.out.mono ?_
        rintro e w5 ⟨rfl, hb5⟩
        have hB5 := Lib.hid (hB.out.mod ((Mod.refl (fun _ => False) _).after hb5) (fun h => h))
        have hm5 := Lib.hid (hm.out.after hb5)
        have hl2 := Lib.hid (hlx.out w5 hb5)
        clear hfk hlx hl1 hB hm hb5
        cases pb with
        | true =>
          have hsk := Lib.hid (hskip.out rfl)
          clear hskip hput hl2
          go_wp2_with fail
          go_roundw
          case rel => exact ⟨j + 1, m, D, by omega, by simp, rfl, hsk, hB5.out, hm5.out⟩
          case measure => simp [intOf]; omega
        | false =>
          have hpt := Lib.hid (fun D' hs hg => hput.out rfl D' hs hg)
          clear hskip hput
          have hmI : (m : Int) < (l.length : Int) := by omega
          go_wp2_with (first | (refine wpList_load_v rfl 125 _ rfl ⟨wr.heap.size, 0, none⟩ rfl _ hl2.out ?_) |
            (refine wpList_store_part rfl 125 _ _ rfl rfl g (m * 2) rfl D #[.int .i64 r, .int .i64 q] 125 hB5.out rfl (by simp; omega) (by simp [Value.oneCell']) (by kernel_rfl) ?_; intro w6 D6 hB6 hm6 hs6 hg6))
          have hm7 := hm5.out.trans hm6
          have hd6 := Lib.hid (hpt.out D6 hs6 hg6)
          clear hpt hg6 hm6 hm5 hB5 hl2
          go_wp2_with fail
          go_roundw
          case rel => exact ⟨j + 1, m + 1, D6, by omega, by simp, by simp, hd6, hB6, hm7⟩
          case measure => simp [intOf]; omega
      · obtain rfl : j = l.length := by omega
        obtain ⟨_, h1, _, h3, _⟩ := hD.out
        rw [List.take_length, hRe.out] at h1 h3
        obtain ⟨w6, D6, hrun, hB6, hm6, hg6⟩ := run_clearS (o := m * 2) (n := l.length - m) (c := c - m) hB (by omega) 0
        have hR6 : StR D6 R := fun k s hs => by
          obtain ⟨g1, g2⟩ := h3 k s hs
          have hk := (List.getElem?_eq_some_iff.1 hs).1
          exact ⟨by rw [hg6 _ (by omega)]; exact g1, by rw [hg6 _ (by omega)]; exact g2⟩
        have hm7 := hm.trans hm6
        have hml : m ≤ l.length := by omega
        replace hrun := Lib.hid hrun
        replace h1 := Lib.hid h1
        clear h3 hg6 hm6 hD hRe hkl
        have h00 : (0 : Int) ≤ (m : Int) := by omega
        have hmI : (m : Int) ≤ (l.length : Int) := by omega
        have hmc : (m : Int) ≤ (c : Int) := by omega
        go_wp2_with (first | (refine wpList_v rfl (.slice (some ⟨g, m * 2, none⟩) (l.length - m) (c - m)) ((run_sll rfl rfl rfl (by omega)).trans (by unfold slB; rw [if_neg (by omega), Option.map_some, add0])) ?_) |
          (refine wpList_vw rfl (.tuple #[]) (exec_clearS rfl rfl hrun.out) ?_) |
          (refine wpList_v rfl (.slice (some ⟨g, 0, none⟩) m c) (run_slS ⟨by omega, hc.1, hc.2⟩ rfl rfl rfl) ?_))
        rw [h1.out]
        go_ret
        exact ⟨rfl, hm7, D6, hB6, hR6⟩
theorem without1_calls (b : Nat) (r k req : Int) (w : World) (h : w.cell? ⟨b, 0, none⟩ = some (.int .i64 req)) :
    Calls Tryz.prog 58 #[.agg #[.int .i64 r, .int .i64 k], .pointer (some ⟨b, 0, none⟩)] w fun e w' => e = .returned (.bool (r == req)) ∧ Below w.heap.size w w' := by
  have hb := new_below w (.cells #[.int .i64 r, .int .i64 k] 125)
  have hB := Blk.new w #[.int .i64 r, .int .i64 k] 125
  have h1 := hB.cell (i := 0) rfl
  have h2 := cellA (.cells #[.int .i64 r, .int .i64 k] 125) h
  clear hB
  go_enter Tryz.func58, Tryz.ntmps58
  go_wp2
  go_ret
  exact ⟨rfl, hb⟩
/-- what Without hands back -/
def WoPost (w : World) (l : List (Int × Int)) (req : Int) (e : Ending) (w' : World) : Prop :=
  Below w.heap.size w w' ∧ ∃ q d, e = .returned (.slice q (woP l req).length d) ∧ ((woP l req).length ≤ d ∧ d ≤ 9223372036854775807) ∧ Els w' q 2 ((woP l req).map stV)
/-- and it is new -/
def WoPostN (w : World) (l : List (Int × Int)) (req : Int) (e : Ending) (w' : World) : Prop :=
  Below w.heap.size w w' ∧ ∃ q d, e = .returned (.slice q (woP l req).length d) ∧ ((woP l req).length ≤ d ∧ d ≤ 9223372036854775807) ∧ Els w' q 2 ((woP l req).map stV) ∧ (woP l req ≠ [] → ∀ a, q = some a → w.heap.size ≤ a.block)
theorem keep_wo (l : List (Int × Int)) (req : Int) : keepL (fun s => s.1 == req) l = woP l req := rfl
set_option maxHeartbeats 1000000 in
set_option maxRecDepth 100000 in
theorem pwithoutN_calls (p : Option Addr) (c : Nat) (l : List (Int × Int)) (req : Int) (w : World) (hE : Els w p 2 (l.map stV)) (hl : l.length ≤ 1000) :
    Calls Tryz.prog 35 #[.slice p l.length c, .int .i64 req] w (WoPostN w l req) := by
  have hcl := Lib.hid (fun wx (h : Below w.heap.size w wx) => clone_calls p c l wx (hE.below h) hl)
  have hwl := woP_len l req
  unfold WoPostN
  obtain ⟨R, hRe⟩ : ∃ R, woP l req = R := ⟨_, rfl⟩
  rw [hRe] at hwl ⊢
  replace hRe := Lib.hid hRe
  clear hE
  go_enter Tryz.func35, Tryz.ntmps35
  go_upto_region 1 with fail
  refine wp_world' (fun wx => Blk wx w.heap.size #[.int .i64 req] 3 ∧ Below w.heap.size w wx) ⟨Blk.new _ _ _, new_below _ _⟩ ?_
  rintro w1 ⟨hB, hb⟩
  have hc1 := Lib.hid (hcl.out w1 hb)
  have hgt := hB.lt
  have hlw := hb.size
  replace hB := Lib.hid hB
  clear hcl
  go_wp2_with fail
  refine hc1.out.mono ?_
  rintro e w2 ⟨hb2, q, d, rfl, hd, hE2, hown⟩
  have hB2 := hB.out.mod ((Mod.refl (fun _ => False) _).after hb2) (fun h => h)
  have hb3 := hb.trans (hb2.mono hb.size)
  clear hc1 hB hb
  by_cases h0 : 0 < l.length
  · obtain ⟨g, C, rfl, hg, hBg, hR⟩ := hown h0
    have hne : w.heap.size ≠ g := by omega
    have hdel := Lib.hid (delF_calls g d C l 58 #[.pointer (some ⟨w.heap.size, 0, none⟩)] (fun s => s.1 == req) w2 hBg hR h0 hl hd (enters_of Tryz.func58 (by kernel_rfl) rfl)
      (fun r _ wx hm => without1_calls w.heap.size r.1 r.2 req wx ((hB2.mod hm hne).cell (i := 0) rfl)))
    rw [keep_wo, hRe.out] at hdel
    have hwd : R.length ≤ d ∧ d ≤ 9223372036854775807 := ⟨Nat.le_trans hwl hd.1, hd.2⟩
    replace hb3 := Lib.hid hb3
    clear hB2 hE2 hown hBg hR hRe
    go_wp2_with fail
    refine hdel.out.mono ?_
    rintro e w4 ⟨rfl, hm4, D4, hB4, hR4⟩
    have hb4 := hb3.out.trans (hm4.below hb3.out.size (fun k hk => by have : k = g := hk; omega))
    have hE4 := stR_els hR4 hB4 (by omega)
    clear hdel hm4
    go_wp2_with fail
    go_ret
    exact ⟨hb4, _, d, rfl, hwd, hE4, fun _ a ha => (by cases ha; exact Nat.le_trans hlw hg)⟩
  · have hl0 : l = [] := List.length_eq_zero_iff.1 (by omega)
    subst hl0
    obtain rfl : R = [] := hRe.out.symm
    clear hRe
    have hif := Lib.hid (indexF_stop q d [] 58 #[.pointer (some ⟨w.heap.size, 0, none⟩)] (fun s => s.1 == req) w2 hE2 (enters_of Tryz.func58 (by kernel_rfl) rfl) (fun r hr => by cases hr))
    have hdel : Hid (Calls Tryz.prog 56 #[.slice q 0 d, .func (.func 58) #[] #[.pointer (some ⟨w.heap.size, 0, none⟩)]] w2 fun e w' => e = .returned (.slice q 0 d) ∧ Below w2.heap.size w2 w') := Lib.hid (by
      clear hown hE2
      go_enter Tryz.func56, Tryz.ntmps56
      go_wp2_with fail
      refine hif.out.mono ?_
      rintro e w3 ⟨rfl, hb3⟩
      clear hif
      go_wp2_with fail
      go_ret
      exact ⟨rfl, hb3⟩)
    replace hE2 := Lib.hid hE2
    clear hif hown
    go_wp2_with fail
    refine hdel.out.mono ?_
    rintro e w4 ⟨rfl, hb4⟩
    have hE4 := hE2.out.below hb4
    have hb5 := hb3.trans (hb4.mono hb3.size)
    clear hdel
    go_wp2_with fail
    go_ret
    exact ⟨hb5, q, d, rfl, ⟨Nat.zero_le _, hd.2⟩, hE4, fun h => absurd rfl h⟩

theorem pwithout_calls (p : Option Addr) (c : Nat) (l : List (Int × Int)) (req : Int) (w : World) (hE : Els w p 2 (l.map stV)) (hl : l.length ≤ 1000) :
    Calls Tryz.prog 35 #[.slice p l.length c, .int .i64 req] w (WoPost w l req) :=
  (pwithoutN_calls p c l req w hE hl).mono fun _ _ ⟨hb, q, d, h1, h2, h3, _⟩ => ⟨hb, q, d, h1, h2, h3⟩

end Go.Proofs.YtkaoflndbcfodaaGreat
