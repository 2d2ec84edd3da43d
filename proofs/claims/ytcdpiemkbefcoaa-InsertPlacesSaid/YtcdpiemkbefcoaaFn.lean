/-
  Go's slices: IndexFunc, ContainsFunc, with a function that makes memory alone.
-/
import Derived.Test.YtcdpiemkbefcoaaEls
namespace Go.Proofs.Ytcdpiemkbefcoaa
open Go.RowKit

def inV (r : Int) : List Value := [.int .i64 r]
set_option maxHeartbeats 1000000 in
set_option maxRecDepth 100000 in
theorem index_int (p : Option Addr) (c : Nat) (R : List Int) (f : FuncId) (caps : Array Value) (Pd : Int → Bool) (w : World) (hE : Els w p 1 (R.map inV)) (eg : ∀ args w, (callFunc f args).run Try.prog w = .ok (.enter f args) w)
    (hf : ∀ r ∈ R, ∀ wx, Below w.heap.size w wx → Calls Try.prog f (#[.int .i64 r] ++ caps) wx fun e w' => e = .returned (.bool (Pd r)) ∧ Below wx.heap.size wx w') :
    Calls Try.prog 101 #[.slice p R.length c, .func (.func f) #[] caps] w fun e w' => (∃ i : Int, e = .returned (.int .i64 i) ∧ (0 ≤ i ↔ R.any Pd = true)) ∧ Below w.heap.size w w' := by
  have hb : R.length ≤ 140737488351232 := by simpa using hE.big
  replace hE := Lib.hid hE
  replace hf := Lib.hid hf
  go_enter Try.func101, Try.ntmps101
  go_wp2_with fail
  go_loopw [8] (fun i wr => ∃ k : Nat, k ≤ R.length ∧ i = .int .i64 k ∧ Hid (∀ j r, j < k → R[j]? = some r → Pd r = false) ∧ Below w.heap.size w wr) (fun i _ => R.length - (intOf i).toNat)
  case atStart => exact ⟨0, Nat.zero_le _, rfl, Lib.hid (fun j r h => by omega), Below.refl _ _⟩
  case round =>
    obtain ⟨k, hk, rfl, hR, hbr⟩ := hrel
    by_cases hlt : k < R.length
    · have hltI : (k : Int) < (R.length : Int) := by omega
      have s1 : IntKind.i64.wrap ((k : Int) + 1) = (k : Int) + 1 := IntWalk.i64_in _ (by omega)
      obtain ⟨a, rfl⟩ := (hE.out.below hbr).some_of (k := k) (by simpa using hlt)
      have hc : wr.cell? (a.add k) = some (.int .i64 R[k]) := by
        have := (hE.out.below hbr).cells a rfl k [.int .i64 R[k]] 0 (.int .i64 R[k]) (by simp [hlt, inV]) rfl
        simpa using this
      have hfk := Lib.hid (hf.out _ (List.getElem_mem hlt) wr hbr)
      have hok : Hid (Pd R[k] = false → ∀ j r, j < k + 1 → R[j]? = some r → Pd r = false) := Lib.hid (fun h j u hj hju => by
        by_cases e : j = k
        · subst e; rw [List.getElem?_eq_getElem hlt] at hju; cases hju; exact h
        · exact hR.out j u (by omega) hju)
      have hbad : Hid (Pd R[k] = true → R.any Pd = true) := Lib.hid (fun h => List.any_eq_true.2 ⟨_, List.getElem_mem hlt, h⟩)
      generalize R[k] = r at hc hfk hok hbad
      generalize Pd r = b at hfk hok hbad
      clear hR
      go_wp2_with fail
      refine hfk.out.mono ?_
      rintro e w2 ⟨rfl, hb2⟩
      replace hb2 := hbr.trans (hb2.mono hbr.size)
      clear hfk hbr hc
      cases b with
      | true =>
        have hy := hbad.out rfl
        clear hbad hok
        go_wp2
        go_ret
        exact ⟨⟨k, rfl, by simp [hy]⟩, hb2⟩
      | false =>
        have hok' := Lib.hid (hok.out rfl)
        clear hbad hok
        go_wp2_with fail
        go_roundw
        case rel => exact ⟨k + 1, by omega, by simp, hok', hb2⟩
        case measure => simp [intOf]; omega
    · obtain rfl : k = R.length := by omega
      have hn : R.any Pd = false := by
        rw [List.any_eq_false]
        intro x hx
        obtain ⟨j, hj, rfl⟩ := List.getElem_of_mem hx
        rw [hR.out j _ hj (List.getElem?_eq_getElem hj)]
        decide
      clear hR
      go_wp2
      go_ret
      exact ⟨⟨-1, rfl, by simp [hn]⟩, hbr⟩
theorem contains_int (p : Option Addr) (c : Nat) (R : List Int) (f : FuncId) (caps : Array Value) (Pd : Int → Bool) (w : World) (hE : Els w p 1 (R.map inV)) (eg : ∀ args w, (callFunc f args).run Try.prog w = .ok (.enter f args) w)
    (hf : ∀ r ∈ R, ∀ wx, Below w.heap.size w wx → Calls Try.prog f (#[.int .i64 r] ++ caps) wx fun e w' => e = .returned (.bool (Pd r)) ∧ Below wx.heap.size wx w') :
    Calls Try.prog 86 #[.slice p R.length c, .func (.func f) #[] caps] w fun e w' => e = .returned (.bool (R.any Pd)) ∧ Below w.heap.size w w' := by
  have hi := Lib.hid (index_int p c R f caps Pd w hE eg hf)
  clear hf eg
  generalize R.any Pd = b at hi ⊢
  go_enter Try.func86, Try.ntmps86
  go_wp2_with fail
  refine hi.out.mono ?_
  rintro e w2 ⟨⟨i, rfl, h⟩, hb2⟩
  replace h := Lib.hid h
  clear hi
  by_cases h0 : 0 ≤ i
  · obtain rfl : b = true := h.out.1 h0
    clear h
    go_wp2
    go_ret
    exact ⟨by simp, hb2⟩
  · obtain rfl : b = false := by
      cases b with
      | false => rfl
      | true => exact absurd (h.out.2 rfl) h0
    clear h
    go_wp2
    go_ret
    exact ⟨by simp [h0], hb2⟩
set_option maxHeartbeats 1000000 in
set_option maxRecDepth 100000 in
theorem index_stop (p : Option Addr) (c : Nat) (R : List (Int × Int)) (f : FuncId) (caps : Array Value) (Pd : Int × Int → Bool) (w : World) (hE : Els w p 2 (R.map stV)) (eg : ∀ args w, (callFunc f args).run Try.prog w = .ok (.enter f args) w)
    (hf : ∀ r ∈ R, ∀ wx, Below w.heap.size w wx → Calls Try.prog f (#[.agg #[.int .i64 r.1, .int .i64 r.2]] ++ caps) wx fun e w' => e = .returned (.bool (Pd r)) ∧ Below wx.heap.size wx w') :
    Calls Try.prog 64 #[.slice p R.length c, .func (.func f) #[] caps] w fun e w' => (∃ i : Int, e = .returned (.int .i64 i) ∧ (0 ≤ i ↔ R.any Pd = true)) ∧ Below w.heap.size w w' := by
  have hb : R.length ≤ 140737488351232 := by simpa using hE.big
  replace hE := Lib.hid hE
  replace hf := Lib.hid hf
  go_enter Try.func64, Try.ntmps64
  go_wp2_with fail
  go_loopw [8] (fun i wr => ∃ k : Nat, k ≤ R.length ∧ i = .int .i64 k ∧ Hid (∀ j r, j < k → R[j]? = some r → Pd r = false) ∧ Below w.heap.size w wr) (fun i _ => R.length - (intOf i).toNat)
  case atStart => exact ⟨0, Nat.zero_le _, rfl, Lib.hid (fun j r h => by omega), Below.refl _ _⟩
  case round =>
    obtain ⟨k, hk, rfl, hR, hbr⟩ := hrel
    by_cases hlt : k < R.length
    · have hltI : (k : Int) < (R.length : Int) := by omega
      have s1 : IntKind.i64.wrap ((k : Int) + 1) = (k : Int) + 1 := IntWalk.i64_in _ (by omega)
      obtain ⟨a, rfl⟩ := (hE.out.below hbr).some_of (k := k) (by simpa using hlt)
      have hc : Hid ((loadVar 55 (a.add (k * 2))).run Try.prog wr = .ok (.agg #[.int .i64 R[k].1, .int .i64 R[k].2]) wr) := Lib.hid (by
        have := (hE.out.below hbr).load (P := Try.prog) (a := a) rfl (k := k) (by simpa using hlt) (ty := 55) Try.underlying55 rfl (by kernel_rfl)
        rw [List.getElem_map] at this
        exact this)
      have hfk := Lib.hid (hf.out _ (List.getElem_mem hlt) wr hbr)
      have hok : Hid (Pd R[k] = false → ∀ j r, j < k + 1 → R[j]? = some r → Pd r = false) := Lib.hid (fun h j u hj hju => by
        by_cases e : j = k
        · subst e; rw [List.getElem?_eq_getElem hlt] at hju; cases hju; exact h
        · exact hR.out j u (by omega) hju)
      have hbad : Hid (Pd R[k] = true → R.any Pd = true) := Lib.hid (fun h => List.any_eq_true.2 ⟨_, List.getElem_mem hlt, h⟩)
      generalize R[k] = r at hc hfk hok hbad
      generalize Pd r = b at hfk hok hbad
      clear hR
      go_wp2_with (first | (refine wpList_load_v rfl 55 _ rfl (a.add (k * 2)) rfl _ hc.out ?_))
      refine hfk.out.mono ?_
      rintro e w2 ⟨rfl, hb2⟩
      replace hb2 := hbr.trans (hb2.mono hbr.size)
      clear hfk hbr hc
      cases b with
      | true =>
        have hy := hbad.out rfl
        clear hbad hok
        go_wp2
        go_ret
        exact ⟨⟨k, rfl, by simp [hy]⟩, hb2⟩
      | false =>
        have hok' := Lib.hid (hok.out rfl)
        clear hbad hok
        go_wp2_with fail
        go_roundw
        case rel => exact ⟨k + 1, by omega, by simp, hok', hb2⟩
        case measure => simp [intOf]; omega
    · obtain rfl : k = R.length := by omega
      have hn : R.any Pd = false := by
        rw [List.any_eq_false]
        intro x hx
        obtain ⟨j, hj, rfl⟩ := List.getElem_of_mem hx
        rw [hR.out j _ hj (List.getElem?_eq_getElem hj)]
        decide
      clear hR
      go_wp2
      go_ret
      exact ⟨⟨-1, rfl, by simp [hn]⟩, hbr⟩
theorem contains_stop (p : Option Addr) (c : Nat) (R : List (Int × Int)) (f : FuncId) (caps : Array Value) (Pd : Int × Int → Bool) (w : World) (hE : Els w p 2 (R.map stV)) (eg : ∀ args w, (callFunc f args).run Try.prog w = .ok (.enter f args) w)
    (hf : ∀ r ∈ R, ∀ wx, Below w.heap.size w wx → Calls Try.prog f (#[.agg #[.int .i64 r.1, .int .i64 r.2]] ++ caps) wx fun e w' => e = .returned (.bool (Pd r)) ∧ Below wx.heap.size wx w') :
    Calls Try.prog 36 #[.slice p R.length c, .func (.func f) #[] caps] w fun e w' => e = .returned (.bool (R.any Pd)) ∧ Below w.heap.size w w' := by
  have hi := Lib.hid (index_stop p c R f caps Pd w hE eg hf)
  clear hf eg
  generalize R.any Pd = b at hi ⊢
  go_enter Try.func36, Try.ntmps36
  go_wp2_with fail
  refine hi.out.mono ?_
  rintro e w2 ⟨⟨i, rfl, h⟩, hb2⟩
  replace h := Lib.hid h
  clear hi
  by_cases h0 : 0 ≤ i
  · obtain rfl : b = true := h.out.1 h0
    clear h
    go_wp2
    go_ret
    exact ⟨by simp, hb2⟩
  · obtain rfl : b = false := by
      cases b with
      | false => rfl
      | true => exact absurd (h.out.2 rfl) h0
    clear h
    go_wp2
    go_ret
    exact ⟨by simp [h0], hb2⟩
end Go.Proofs.Ytcdpiemkbefcoaa
