/-
  Go's slices: Index, IndexFunc, DeleteFunc, Clone, at stops; layer 6, the program's: At, Without.
-/
import Derived.Test.YtpbmeeogledmdaeWi
import Derived.Test.YtpbmeeogledmdaeRt
import Derived.Lib.SliceRun
namespace Go.Proofs.Ytpbmeeogledmdae
open Go.RowKit

/-- the first place where it holds, or -1 -/
def fstI {α : Type} (P : α → Bool) (l : List α) : Int := match l.findIdx? P with | some k => (k : Int) | none => -1
theorem fstI_hit {α : Type} {P : α → Bool} {l : List α} {k : Nat} (hk : k < l.length) (h : P l[k] = true) (hn : ∀ j x, j < k → l[j]? = some x → P x = false) : fstI P l = k := by
  have : l.findIdx? P = some k := by
    rw [List.findIdx?_eq_some_iff_getElem]
    refine ⟨hk, h, fun j hj => ?_⟩
    rw [hn j _ hj (List.getElem?_eq_getElem (by omega))]
    decide
  unfold fstI
  rw [this]
theorem fstI_none {α : Type} {P : α → Bool} {l : List α} (hn : ∀ j x, j < l.length → l[j]? = some x → P x = false) : fstI P l = -1 := by
  have : l.findIdx? P = none := by
    rw [List.findIdx?_eq_none_iff]
    intro x hx
    obtain ⟨j, hj, rfl⟩ := List.getElem_of_mem hx
    exact hn j _ hj (List.getElem?_eq_getElem hj)
  unfold fstI
  rw [this]


set_option maxRecDepth 100000 in
theorem indexF_stop (p : Option Addr) (c : Nat) (R : List (Int × Int)) (f : FuncId) (caps : Array Value) (Pd : Int × Int → Bool) (w : World) (hE : Els w p 2 (R.map stV)) (eg : ∀ args w, (callFunc f args).run Try.prog w = .ok (.enter f args) w)
    (hf : ∀ r ∈ R, ∀ wx, Below w.heap.size w wx → Calls Try.prog f (#[.agg #[.int .i64 r.1, .int .i64 r.2]] ++ caps) wx fun e w' => e = .returned (.bool (Pd r)) ∧ Below wx.heap.size wx w') :
    Calls Try.prog 52 #[.slice p R.length c, .func (.func f) #[] caps] w fun e w' => e = .returned (.int .i64 (fstI Pd R)) ∧ Below w.heap.size w w' := by
  have hb : R.length ≤ 140737488351232 := by simpa using hE.big
  have hit := Lib.hid (fun (k : Nat) (hk : k < R.length) h hn => fstI_hit (P := Pd) hk h hn)
  have hno := Lib.hid (fun hn => fstI_none (P := Pd) (l := R) hn)
  generalize fstI Pd R = X at hit hno ⊢
  replace hE := Lib.hid hE
  replace hf := Lib.hid hf
  go_enter Try.func52, Try.ntmps52
  go_wp2_with fail
  go_loopw [8] (fun i wr => ∃ k : Nat, k ≤ R.length ∧ i = .int .i64 k ∧ Hid (∀ (j : Nat) (r : Int × Int), j < k → R[j]? = some r → Pd r = false) ∧ Below w.heap.size w wr) (fun i _ => R.length - (intOf i).toNat)
  case atStart => exact ⟨0, Nat.zero_le _, rfl, Lib.hid (fun j r h => by omega), Below.refl _ _⟩
  case round =>
    obtain ⟨k, hk, rfl, hR, hbr⟩ := hrel
    by_cases hlt : k < R.length
    · have hltI : (k : Int) < (R.length : Int) := by omega
      have s1 : IntKind.i64.wrap ((k : Int) + 1) = (k : Int) + 1 := IntWalk.i64_in _ (by omega)
      obtain ⟨a, rfl⟩ := (hE.out.below hbr).some_of (k := k) (by simpa using hlt)
      have hc : Hid ((loadVar 81 (a.add (k * 2))).run Try.prog wr = .ok (.agg #[.int .i64 R[k].1, .int .i64 R[k].2]) wr) := Lib.hid (by
        have := (hE.out.below hbr).load (P := Try.prog) (a := a) rfl (k := k) (by simpa using hlt) (ty := 81) Try.underlying81 rfl (by kernel_rfl)
        rw [List.getElem_map] at this
        exact this)
      have hfk := Lib.hid (hf.out _ (List.getElem_mem hlt) wr hbr)
      have hok : Hid (Pd R[k] = false → ∀ (j : Nat) (r : Int × Int), j < k + 1 → R[j]? = some r → Pd r = false) := Lib.hid (fun h j u hj hju => by
        by_cases e : j = k
        · subst e; rw [List.getElem?_eq_getElem hlt] at hju; cases hju; exact h
        · exact hR.out j u (by omega) hju)
      have hhit := Lib.hid (fun h => hit.out k hlt h hR.out)
      clear hit hno
      generalize R[k] = r at hc hfk hok hhit
      generalize Pd r = b at hfk hok hhit
      clear hR
      go_wp2_with (first | (refine wpList_load_v rfl 81 _ rfl (a.add (k * 2)) rfl _ hc.out ?_))
      refine hfk.out.mono ?_
      rintro e w2 ⟨rfl, hb2⟩
      replace hb2 := hbr.trans (hb2.mono hbr.size)
      clear hfk hbr hc
      cases b with
      | true =>
        obtain rfl : X = (k : Int) := hhit.out rfl
        clear hhit hok
        go_wp2
        go_ret
        exact ⟨rfl, hb2⟩
      | false =>
        have hok' := Lib.hid (hok.out rfl)
        clear hhit hok
        go_wp2_with fail
        go_roundw
        case rel => exact ⟨k + 1, by omega, by simp, hok', hb2⟩
        case measure => simp [intOf]; omega
    · obtain rfl : k = R.length := by omega
      obtain rfl : X = -1 := hno.out hR.out
      clear hR hno hit
      go_wp2
      go_ret
      exact ⟨rfl, hbr⟩

/-- a stop lies at a place of a row -/
def StC (D : Array Value) (k : Nat) (s : Int × Int) : Prop := D[k * 2]? = some (.int .i64 s.1) ∧ D[k * 2 + 1]? = some (.int .i64 s.2)
def StR (D : Array Value) (R : List (Int × Int)) : Prop := ∀ (k : Nat) (s : Int × Int), R[k]? = some s → StC D k s
theorem ownS_blk {w : World} {base n k cap : Nat} {E : TypeId} {p : Option Addr} {xs : List Value} (h : w.ownsRow base E n (.slice p k cap) k xs) (hk : 0 < k) :
    ∃ (g : Nat) (C : Array Value), p = some ⟨g, 0, none⟩ ∧ Blk w g C E ∧ base ≤ g ∧ ∀ (j : Nat) (v : Value), xs[j]? = some v → C[j]? = some v := by
  rcases h.2 with ⟨hv, _⟩ | ⟨g, cap', cur, hv, hg, hh, _, _, _, ht⟩
  · simp only [Value.slice.injEq] at hv
    omega
  · simp only [Value.slice.injEq] at hv
    refine ⟨g, cur, hv.1, hh, hg, fun j v hj => ?_⟩
    rw [← ht] at hj
    have hlt := (List.getElem?_eq_some_iff.1 hj).1
    rw [List.length_take] at hlt
    rw [List.getElem?_take_of_lt (by omega)] at hj
    simpa using hj
theorem stR_of {C : Array Value} {R : List (Int × Int)} (h : ∀ (j : Nat) (v : Value), (R.map stV).flatten[j]? = some v → C[j]? = some v) : StR C R := fun k s hs =>
  ⟨h _ _ (by have := flat_at (n := 2) (R.map stV) k 0 (stV s) (.int .i64 s.1) (stV_len R) (by rw [List.getElem?_map, hs]; rfl) rfl; simpa using this),
   h _ _ (flat_at (n := 2) (R.map stV) k 1 (stV s) (.int .i64 s.2) (stV_len R) (by rw [List.getElem?_map, hs]; rfl) rfl)⟩
theorem stR_els {w : World} {g : Nat} {C : Array Value} {R : List (Int × Int)} {E : TypeId} (h : StR C R) (hB : Blk w g C E) (hl : R.length ≤ 140737488351232) : Els w (some ⟨g, 0, none⟩) 2 (R.map stV) :=
  ⟨fun e => (by cases e), stV_len R, by rw [List.length_map]; exact hl, fun a ha k x j v hk hj => by
    cases ha
    rw [List.getElem?_map] at hk
    simp only [Option.map_eq_some_iff] at hk
    obtain ⟨s, hs, rfl⟩ := hk
    obtain ⟨h1, h2⟩ := h k s hs
    rw [add0]
    match j with
    | 0 => cases hj; exact hB.cell h1
    | 1 => cases hj; exact hB.cell h2
    | j + 2 => simp [stV] at hj⟩
theorem run_nilS {ρ : Operand → Value} {o : Oper} {w : World} {x : Operand} {p : Option Addr} {n c : Nat} (ho : o.op = .binOp .eql 48 x (.const (.slice none 0 0)) 48) (hx : ρ x = .slice p n c) (hc : ρ (.const (.slice none 0 0)) = .slice none 0 0 := by rfl) :
    (execOp ρ o).run Try.prog w = .ok (.value (.bool p.isNone)) w := by
  have h := Lib.run_eql_slice_nil (P := Try.prog) w 48 81 p n c 0 0 Try.underlying48
  cases p <;> (unfold execOp; simp only [ho, hx, hc]; go_simp)
theorem rsl_stZ (w : World) : (Instr.buildSlice 48 0 #[]).run Try.prog w = .ok (.slice (some ⟨w.heap.size, 0, none⟩) 0 0) (w.alloc (.cells #[] 81)) := by kernel_rfl
/-- what Clone hands back -/
def ClPost (w : World) (l : List (Int × Int)) (e : Ending) (w' : World) : Prop :=
  Below w.heap.size w w' ∧ ∃ q d, e = .returned (.slice q l.length d) ∧ (l.length ≤ d ∧ d ≤ 9223372036854775807) ∧ Els w' q 2 (l.map stV) ∧
    (0 < l.length → ∃ (g : Nat) (C : Array Value), q = some ⟨g, 0, none⟩ ∧ w.heap.size ≤ g ∧ Blk w' g C 81 ∧ StR C l)
set_option maxHeartbeats 1000000 in
set_option maxRecDepth 100000 in
theorem clone_calls (p : Option Addr) (c : Nat) (l : List (Int × Int)) (w : World) (hE : Els w p 2 (l.map stV)) (hl : l.length ≤ 1000) :
    Calls Try.prog 23 #[.slice p l.length c] w (ClPost w l) := by
  cases p with
  | none =>
    have h0 : l = [] := by have := hE.nil rfl; simpa using this
    subst h0
    clear hE
    show Calls Try.prog 23 #[.slice none 0 c] w _
    go_enter Try.func23, Try.ntmps23
    go_wp2_with (refine wpList_v rfl (.bool true) (run_nilS (p := none) rfl rfl) ?_)
    go_ret
    exact ⟨Below.refl _ _, none, 0, rfl, ⟨Nat.le_refl _, by omega⟩, ⟨fun _ => rfl, fun x hx => (by cases hx), by simp, fun a ha => by cases ha⟩, fun h => by cases h⟩
  | some a =>
    have ho1 := Lib.hid (World.ownsRow_made (base := w.heap.size) (e := 81) (size := 2) w #[] 0 (Nat.le_refl _) (by unfold maxLen; omega) rfl)
    have hlow1 := Lib.hid (new_below w (.cells #[] 81))
    have hEA := Lib.hid (hE.below hlow1.out)
    have hz1 := Lib.hid hlow1.out.size
    have hTl := Lib.hid (show l.length = (l.map stV).length by rw [List.length_map])
    have hall := Lib.hid (stV_all l)
    replace hE := Lib.hid hE
    go_enter Try.func23, Try.ntmps23
    go_wp2_with (first | (refine wpList_v rfl (.bool false) (run_nilS (p := some a) rfl rfl) ?_) | (refine wpList_bs0 rfl 48 0 rfl _ _ (rsl_stZ _) ?_) |
      (refine wpList_appE st_el rfl _ _ rfl w.heap.size hz1.out _ 0 [] rfl ho1.out (by omega) (some a) l.length c _ rfl hEA.out hTl.out (by omega) hall.out ?_; intro v6 w6 hO6 hg6))
    have hlow6 := grown_low hlow1.out (Nat.le_refl _) (Nat.le_refl _) ho1.out hg6
    rw [Nat.zero_add, List.nil_append] at hO6
    obtain ⟨qO, nO, dO, rfl⟩ := own_isS hO6
    obtain ⟨hEO, hnO, hdO, _⟩ := own_els (R := l.map stV) (stV_len _) (by rw [List.length_map]; exact hO6) (by rw [List.length_map]; omega)
    rw [List.length_map] at hnO
    subst hnO
    have hcap := own_cap hO6
    have hown : 0 < l.length → ∃ (g : Nat) (C : Array Value), qO = some ⟨g, 0, none⟩ ∧ w.heap.size ≤ g ∧ Blk w6 g C 81 ∧ StR C l := fun h0 => by
      obtain ⟨g, C, h1, h2, h3, h4⟩ := ownS_blk hO6 h0
      exact ⟨g, C, h1, h3, h2, stR_of h4⟩
    clear ho1 hlow1 hEA hz1 hg6 hO6 hall hTl
    go_wp2_with fail
    go_ret
    exact ⟨hlow6, qO, dO, rfl, ⟨hdO, hcap⟩, hEO, hown⟩

/-- those that stay -/
def keepL (Pd : Int × Int → Bool) (l : List (Int × Int)) : List (Int × Int) := l.filter fun s => !Pd s
theorem keepL_succ (Pd : Int × Int → Bool) (l : List (Int × Int)) {j : Nat} (hj : j < l.length) : keepL Pd (l.take (j + 1)) = keepL Pd (l.take j) ++ if Pd l[j] = true then [] else [l[j]] := by
  unfold keepL
  rw [List.take_succ_eq_append_getElem hj, List.filter_append]
  cases h : Pd l[j] <;> simp [h]
theorem keepL_len (Pd : Int × Int → Bool) (l : List (Int × Int)) : (keepL Pd l).length ≤ l.length := List.length_filter_le _ _
theorem keepL_all {Pd : Int × Int → Bool} {l : List (Int × Int)} (h : ∀ (j : Nat) (s : Int × Int), j < l.length → l[j]? = some s → Pd s = false) : keepL Pd l = l := by
  unfold keepL
  rw [List.filter_eq_self]
  intro s hs
  obtain ⟨j, hj, rfl⟩ := List.getElem_of_mem hs
  rw [h j _ hj (List.getElem?_eq_getElem hj)]
  rfl
theorem fstI_cases {α : Type} (P : α → Bool) (l : List α) : (fstI P l = -1 ∧ ∀ (j : Nat) (x : α), j < l.length → l[j]? = some x → P x = false) ∨ ∃ (k : Nat) (h : k < l.length), fstI P l = k ∧ P l[k] = true ∧ ∀ (j : Nat) (x : α), j < k → l[j]? = some x → P x = false := by
  cases h : l.findIdx? P with
  | none =>
    left
    refine ⟨by unfold fstI; rw [h], fun j x _ hx => ?_⟩
    exact (List.findIdx?_eq_none_iff.1 h) x (List.mem_of_getElem? hx)
  | some k =>
    right
    obtain ⟨hk, h1, h2⟩ := List.findIdx?_eq_some_iff_getElem.1 h
    refine ⟨k, hk, by unfold fstI; rw [h], h1, fun j x hj hx => ?_⟩
    have := h2 j hj
    rw [List.getElem?_eq_getElem (by omega)] at hx
    cases hx
    simpa using this
/-- a row in which the first m stay, and those from j on are as they were -/
def DfC (Pd : Int × Int → Bool) (l : List (Int × Int)) (n j m : Nat) (D : Array Value) : Prop :=
  D.size = n ∧ m = (keepL Pd (l.take j)).length ∧ m < j ∧ StR D (keepL Pd (l.take j)) ∧ ∀ (k : Nat) (s : Int × Int), j ≤ k → l[k]? = some s → StC D k s
theorem dfC_start {Pd : Int × Int → Bool} {l : List (Int × Int)} {D : Array Value} {k : Nat} (hR : StR D l) (hk : k < l.length) (h1 : Pd l[k] = true) (hn : ∀ (j : Nat) (x : Int × Int), j < k → l[j]? = some x → Pd x = false) : DfC Pd l D.size (k + 1) k D := by
  have e : keepL Pd (l.take k) = l.take k := keepL_all (fun j s hj hs => by
    rw [List.length_take] at hj
    rw [List.getElem?_take_of_lt (by omega)] at hs
    exact hn j s (by omega) hs)
  have e2 : keepL Pd (l.take (k + 1)) = l.take k := by rw [keepL_succ Pd l hk, if_pos h1, e, List.append_nil]
  refine ⟨rfl, by rw [e2, List.length_take]; omega, by omega, ?_, fun j s _ hs => hR j s hs⟩
  rw [e2]
  intro j s hs
  rw [List.getElem?_take] at hs
  split at hs
  · exact hR j s hs
  · cases hs
theorem dfC_skip {Pd : Int × Int → Bool} {l : List (Int × Int)} {n j m : Nat} {D : Array Value} (h : DfC Pd l n j m D) (hj : j < l.length) (hp : Pd l[j] = true) : DfC Pd l n (j + 1) m D := by
  obtain ⟨h0, h1, h2, h3, h4⟩ := h
  have e : keepL Pd (l.take (j + 1)) = keepL Pd (l.take j) := by rw [keepL_succ Pd l hj, if_pos hp, List.append_nil]
  exact ⟨h0, by rw [e]; exact h1, by omega, by rw [e]; exact h3, fun k s hk hs => h4 k s (by omega) hs⟩
theorem dfC_put {Pd : Int × Int → Bool} {l : List (Int × Int)} {n j m : Nat} {D D' : Array Value} (h : DfC Pd l n j m D) (hj : j < l.length) (hp : Pd l[j] = false) (hs : D'.size = D.size)
    (hg : ∀ i : Nat, D'[i]? = if m * 2 ≤ i ∧ i < m * 2 + 2 then (#[Value.int .i64 l[j].1, .int .i64 l[j].2] : Array Value)[i - m * 2]? else D[i]?) : DfC Pd l n (j + 1) (m + 1) D' := by
  obtain ⟨h0, h1, h2, h3, h4⟩ := h
  have e : keepL Pd (l.take (j + 1)) = keepL Pd (l.take j) ++ [l[j]] := by rw [keepL_succ Pd l hj, if_neg (by rw [hp]; decide)]
  refine ⟨by rw [hs, h0], by rw [e, List.length_append, ← h1]; rfl, by omega, ?_, fun k s hk hks => ?_⟩
  · rw [e]
    intro k s hks
    by_cases hkm : k < m
    · rw [List.getElem?_append_left (by omega)] at hks
      obtain ⟨g1, g2⟩ := h3 k s hks
      exact ⟨by rw [hg, if_neg (by omega)]; exact g1, by rw [hg, if_neg (by omega)]; exact g2⟩
    · rw [List.getElem?_append_right (by omega), ← h1] at hks
      have hkm' : k = m := by
        have := (List.getElem?_eq_some_iff.1 hks).1
        simp at this
        omega
      subst hkm'
      rw [Nat.sub_self] at hks
      cases hks
      exact ⟨by rw [hg, if_pos (by omega), Nat.sub_self]; rfl, by rw [hg, if_pos (by omega), show k * 2 + 1 - k * 2 = 1 by omega]; rfl⟩
  · obtain ⟨g1, g2⟩ := h4 k s (by omega) hks
    exact ⟨by rw [hg, if_neg (by omega)]; exact g1, by rw [hg, if_neg (by omega)]; exact g2⟩
theorem zero_cells (n : Nat) : ∀ v ∈ (Builtin.zeroCells #[Value.int .i64 0, .int .i64 0] n).toList, v.oneCell' = true := by
  intro v hv
  unfold Builtin.zeroCells at hv
  rw [Array.mem_toList_iff, Array.mem_map] at hv
  obtain ⟨i, _, rfl⟩ := hv
  have : i % 2 = 0 ∨ i % 2 = 1 := by omega
  show ((#[Value.int .i64 0, .int .i64 0] : Array Value)[i % 2]!).oneCell' = true
  rcases this with e | e <;> rw [e] <;> rfl
theorem st_zero (w : World) : (zeroValue 81).run Try.prog w = .ok (.agg #[.int .i64 0, .int .i64 0]) w := by kernel_rfl
/-- 'clear' of the end of a row of stops -/
theorem run_clearS {w : World} {g o n c : Nat} {D : Array Value} (hB : Blk w g D 81) (ho : o + n * 2 ≤ D.size) (ty : TypeId) :
    ∃ w' D', (Builtin.clear_ #[48] ty #[.slice (some ⟨g, o, none⟩) n c]).run Try.prog w = .ok (.tuple #[]) w' ∧ Blk w' g D' 81 ∧ Mod (· = g) w w' ∧ ∀ i, i < o → D'[i]? = D[i]? := by
  by_cases hn : n = 0
  · subst hn
    refine ⟨w, D, ?_, hB, Mod.refl _ _, fun _ _ => rfl⟩
    simp [Builtin.clear_, run_underlying Try.underlying48]
  · obtain ⟨m, rfl⟩ : ∃ m, n = m + 1 := ⟨n - 1, by omega⟩
    have hlen : (Builtin.zeroCells #[Value.int .i64 0, .int .i64 0] (m + 1)).toList.length = (m + 1) * 2 := by simp [Builtin.zeroCells]
    have e := run_storeCells_at (P := Try.prog) g o 81 (Builtin.zeroCells #[Value.int .i64 0, .int .i64 0] (m + 1)).toList 0 D w hB (by rw [hlen]; omega) (zero_cells _)
    rw [hlen] at e
    simp only [Nat.add_zero] at e
    have e' : (Builtin.clear_ #[48] ty #[.slice (some ⟨g, o, none⟩) (m + 1) c]).run Try.prog w = .ok (.tuple #[]) (w.setRow g (D.toList.take o ++ (Builtin.zeroCells #[Value.int .i64 0, .int .i64 0] (m + 1)).toList ++ D.toList.drop (o + (m + 1) * 2)).toArray) := by
      simp [Builtin.clear_, run_underlying Try.underlying48, Value.cells, e]
    refine ⟨_, _, e', setRow_heap w g D _ 81 (0, 0) hB, ⟨rfl, rfl, rfl, by simp [World.setRow], fun k _ hk => setRow_other w g k _ hk⟩, fun i hi => ?_⟩
    rw [List.getElem?_toArray, List.append_assoc, List.getElem?_append_left (by simp; omega), List.getElem?_take_of_lt hi, Array.getElem?_toList]
theorem exec_clearS {ρ : Operand → Value} {o : Oper} {w w' : World} {x : Operand} {v : Value} {ty : TypeId} (ho : o.op = .call { callee := .builtin .clear, args := #[x], argTypes := #[ty] }) (hx : ρ x = v) (h : (Builtin.clear_ #[ty] o.type #[v]).run Try.prog w = .ok (.tuple #[]) w') :
    (execOp ρ o).run Try.prog w = .ok (.value (.tuple #[])) w' := by
  unfold execOp
  simp only [ho, resolve, invoke, builtin, Sem.run_bind, Sem.run_pure, Result.andThen_ok, List.map_toArray, List.map_cons, List.map_nil, hx, h]
/-- what Without hands back -/
def WoPost (w : World) (l : List (Int × Int)) (req : Int) (e : Ending) (w' : World) : Prop :=
  Below w.heap.size w w' ∧ ∃ q d, e = .returned (.slice q (woP l req).length d) ∧ ((woP l req).length ≤ d ∧ d ≤ 9223372036854775807) ∧ Els w' q 2 ((woP l req).map stV)
/-- and it is new -/
def WoPostN (w : World) (l : List (Int × Int)) (req : Int) (e : Ending) (w' : World) : Prop :=
  Below w.heap.size w w' ∧ ∃ q d, e = .returned (.slice q (woP l req).length d) ∧ ((woP l req).length ≤ d ∧ d ≤ 9223372036854775807) ∧ Els w' q 2 ((woP l req).map stV) ∧ (woP l req ≠ [] → ∀ a, q = some a → w.heap.size ≤ a.block)
theorem keep_wo (l : List (Int × Int)) (req : Int) : keepL (fun s => s.1 == req) l = woP l req := rfl


end Go.Proofs.Ytpbmeeogledmdae
