/-
  Go's slices: IndexFunc, ContainsFunc, with a function that makes memory alone.
  Layer 8, the program's: told.
-/
import Derived.Test.YtpbmeeogledmdaeEls
import Derived.Test.YtpbmeeogledmdaeTm
namespace Go.Proofs.Ytpbmeeogledmdae
open Go.RowKit

def inV (r : Int) : List Value := [.int .i64 r]
set_option maxHeartbeats 1000000 in
set_option maxRecDepth 100000 in
theorem index_int (p : Option Addr) (c : Nat) (R : List Int) (f : FuncId) (caps : Array Value) (Pd : Int → Bool) (w : World) (hE : Els w p 1 (R.map inV)) (eg : ∀ args w, (callFunc f args).run Try.prog w = .ok (.enter f args) w)
    (hf : ∀ r ∈ R, ∀ wx, Below w.heap.size w wx → Calls Try.prog f (#[.int .i64 r] ++ caps) wx fun e w' => e = .returned (.bool (Pd r)) ∧ Below wx.heap.size wx w') :
    Calls Try.prog 84 #[.slice p R.length c, .func (.func f) #[] caps] w fun e w' => (∃ i : Int, e = .returned (.int .i64 i) ∧ (0 ≤ i ↔ R.any Pd = true)) ∧ Below w.heap.size w w' := by
  have hb : R.length ≤ 140737488351232 := by simpa using hE.big
  replace hE := Lib.hid hE
  replace hf := Lib.hid hf
  go_enter Try.func84, Try.ntmps84
  go_wp2_with fail
  go_loopw [8] (fun i wr => ∃ k : Nat, k ≤ R.length ∧ i = .int .i64 k ∧ Hid (∀ j r, j < k → R[j]? = some r → Pd r = false) ∧ Below w.heap.size w wr) (fun i _ => R.length - (intOf i).toNat)
  case atStart => exact ⟨0, Nat.zero_le _, rfl, Lib.hid (fun j r h => by omega), Below.refl _ _⟩
  case round =>
    obtain ⟨k, hk, rfl, hR, hbr⟩ := hrel
    by_cases hlt : k < R.length
    · have hltI : (k : Int) < (R.length : Int) := by omega
      have s1 : IntKind.i64.wrap ((k : Int) + 1) = (k : Int) + 1 := IntWalk.i64_in _ (by omega)
      obtain ⟨a, rfl⟩ := (hE.out.below hbr).some_of (k := k) (by simpa using hlt)
      have hc : wr.cell? (a.add k) = some (.int .i64 R[k]) := by
        have := (hE.out.below hbr).cells a rfl k [.int .i64 R[k]] 0 (.int .i64 R[k]) (by simp [hlt, inV]) rfl
        simpa using this
      have hfk := Lib.hid (hf.out _ (List.getElem_mem hlt) wr hbr)
      have hok : Hid (Pd R[k] = false → ∀ j r, j < k + 1 → R[j]? = some r → Pd r = false) := Lib.hid (fun h j u hj hju => by
        by_cases e : j = k
        · subst e; rw [List.getElem?_eq_getElem hlt] at hju; cases hju; exact h
        · exact hR.out j u (by omega) hju)
      have hbad : Hid (Pd R[k] = true → R.any Pd = true) := Lib.hid (fun h => List.any_eq_true.2 ⟨_, List.getElem_mem hlt, h⟩)
      generalize R[k] = r at hc hfk hok hbad
      generalize Pd r = b at hfk hok hbad
      clear hR
      go_wp2_with fail
      refine hfk.out.mono ?_
      rintro e w2 ⟨rfl, hb2⟩
      replace hb2 := hbr.trans (hb2.mono hbr.size)
      clear hfk hbr hc
      cases b with
      | true =>
        have hy := hbad.out rfl
        clear hbad hok
        go_wp2
        go_ret
        exact ⟨⟨k, rfl, by simp [hy]⟩, hb2⟩
      | false =>
        have hok' := Lib.hid (hok.out rfl)
        clear hbad hok
        go_wp2_with fail
        go_roundw
        case rel => exact ⟨k + 1, by omega, by simp, hok', hb2⟩
        case measure => simp [intOf]; omega
    · obtain rfl : k = R.length := by omega
      have hn : R.any Pd = false := by
        rw [List.any_eq_false]
        intro x hx
        obtain ⟨j, hj, rfl⟩ := List.getElem_of_mem hx
        rw [hR.out j _ hj (List.getElem?_eq_getElem hj)]
        decide
      clear hR
      go_wp2
      go_ret
      exact ⟨⟨-1, rfl, by simp [hn]⟩, hbr⟩
theorem contains_int (p : Option Addr) (c : Nat) (R : List Int) (f : FuncId) (caps : Array Value) (Pd : Int → Bool) (w : World) (hE : Els w p 1 (R.map inV)) (eg : ∀ args w, (callFunc f args).run Try.prog w = .ok (.enter f args) w)
    (hf : ∀ r ∈ R, ∀ wx, Below w.heap.size w wx → Calls Try.prog f (#[.int .i64 r] ++ caps) wx fun e w' => e = .returned (.bool (Pd r)) ∧ Below wx.heap.size wx w') :
    Calls Try.prog 80 #[.slice p R.length c, .func (.func f) #[] caps] w fun e w' => e = .returned (.bool (R.any Pd)) ∧ Below w.heap.size w w' := by
  have hi := Lib.hid (index_int p c R f caps Pd w hE eg hf)
  clear hf eg
  generalize R.any Pd = b at hi ⊢
  go_enter Try.func80, Try.ntmps80
  go_wp2_with fail
  refine hi.out.mono ?_
  rintro e w2 ⟨⟨i, rfl, h⟩, hb2⟩
  replace h := Lib.hid h
  clear hi
  by_cases h0 : 0 ≤ i
  · obtain rfl : b = true := h.out.1 h0
    clear h
    go_wp2
    go_ret
    exact ⟨by simp, hb2⟩
  · obtain rfl : b = false := by
      cases b with
      | false => rfl
      | true => exact absurd (h.out.2 rfl) h0
    clear h
    go_wp2
    go_ret
    exact ⟨by simp [h0], hb2⟩
set_option maxHeartbeats 1000000 in
set_option maxRecDepth 100000 in
theorem index_stop (p : Option Addr) (c : Nat) (R : List (Int × Int)) (f : FuncId) (caps : Array Value) (Pd : Int × Int → Bool) (w : World) (hE : Els w p 2 (R.map stV)) (eg : ∀ args w, (callFunc f args).run Try.prog w = .ok (.enter f args) w)
    (hf : ∀ r ∈ R, ∀ wx, Below w.heap.size w wx → Calls Try.prog f (#[.agg #[.int .i64 r.1, .int .i64 r.2]] ++ caps) wx fun e w' => e = .returned (.bool (Pd r)) ∧ Below wx.heap.size wx w') :
    Calls Try.prog 52 #[.slice p R.length c, .func (.func f) #[] caps] w fun e w' => (∃ i : Int, e = .returned (.int .i64 i) ∧ (0 ≤ i ↔ R.any Pd = true)) ∧ Below w.heap.size w w' := by
  have hb : R.length ≤ 140737488351232 := by simpa using hE.big
  replace hE := Lib.hid hE
  replace hf := Lib.hid hf
  go_enter Try.func52, Try.ntmps52
  go_wp2_with fail
  go_loopw [8] (fun i wr => ∃ k : Nat, k ≤ R.length ∧ i = .int .i64 k ∧ Hid (∀ j r, j < k → R[j]? = some r → Pd r = false) ∧ Below w.heap.size w wr) (fun i _ => R.length - (intOf i).toNat)
  case atStart => exact ⟨0, Nat.zero_le _, rfl, Lib.hid (fun j r h => by omega), Below.refl _ _⟩
  case round =>
    obtain ⟨k, hk, rfl, hR, hbr⟩ := hrel
    by_cases hlt : k < R.length
    · have hltI : (k : Int) < (R.length : Int) := by omega
      have s1 : IntKind.i64.wrap ((k : Int) + 1) = (k : Int) + 1 := IntWalk.i64_in _ (by omega)
      obtain ⟨a, rfl⟩ := (hE.out.below hbr).some_of (k := k) (by simpa using hlt)
      have hc : Hid ((loadVar 81 (a.add (k * 2))).run Try.prog wr = .ok (.agg #[.int .i64 R[k].1, .int .i64 R[k].2]) wr) := Lib.hid (by
        have := (hE.out.below hbr).load (P := Try.prog) (a := a) rfl (k := k) (by simpa using hlt) (ty := 81) Try.underlying81 rfl (by kernel_rfl)
        rw [List.getElem_map] at this
        exact this)
      have hfk := Lib.hid (hf.out _ (List.getElem_mem hlt) wr hbr)
      have hok : Hid (Pd R[k] = false → ∀ j r, j < k + 1 → R[j]? = some r → Pd r = false) := Lib.hid (fun h j u hj hju => by
        by_cases e : j = k
        · subst e; rw [List.getElem?_eq_getElem hlt] at hju; cases hju; exact h
        · exact hR.out j u (by omega) hju)
      have hbad : Hid (Pd R[k] = true → R.any Pd = true) := Lib.hid (fun h => List.any_eq_true.2 ⟨_, List.getElem_mem hlt, h⟩)
      generalize R[k] = r at hc hfk hok hbad
      generalize Pd r = b at hfk hok hbad
      clear hR
      go_wp2_with (first | (refine wpList_load_v rfl 81 _ rfl (a.add (k * 2)) rfl _ hc.out ?_))
      refine hfk.out.mono ?_
      rintro e w2 ⟨rfl, hb2⟩
      replace hb2 := hbr.trans (hb2.mono hbr.size)
      clear hfk hbr hc
      cases b with
      | true =>
        have hy := hbad.out rfl
        clear hbad hok
        go_wp2
        go_ret
        exact ⟨⟨k, rfl, by simp [hy]⟩, hb2⟩
      | false =>
        have hok' := Lib.hid (hok.out rfl)
        clear hbad hok
        go_wp2_with fail
        go_roundw
        case rel => exact ⟨k + 1, by omega, by simp, hok', hb2⟩
        case measure => simp [intOf]; omega
    · obtain rfl : k = R.length := by omega
      have hn : R.any Pd = false := by
        rw [List.any_eq_false]
        intro x hx
        obtain ⟨j, hj, rfl⟩ := List.getElem_of_mem hx
        rw [hR.out j _ hj (List.getElem?_eq_getElem hj)]
        decide
      clear hR
      go_wp2
      go_ret
      exact ⟨⟨-1, rfl, by simp [hn]⟩, hbr⟩
theorem contains_stop (p : Option Addr) (c : Nat) (R : List (Int × Int)) (f : FuncId) (caps : Array Value) (Pd : Int × Int → Bool) (w : World) (hE : Els w p 2 (R.map stV)) (eg : ∀ args w, (callFunc f args).run Try.prog w = .ok (.enter f args) w)
    (hf : ∀ r ∈ R, ∀ wx, Below w.heap.size w wx → Calls Try.prog f (#[.agg #[.int .i64 r.1, .int .i64 r.2]] ++ caps) wx fun e w' => e = .returned (.bool (Pd r)) ∧ Below wx.heap.size wx w') :
    Calls Try.prog 28 #[.slice p R.length c, .func (.func f) #[] caps] w fun e w' => e = .returned (.bool (R.any Pd)) ∧ Below w.heap.size w w' := by
  have hi := Lib.hid (index_stop p c R f caps Pd w hE eg hf)
  clear hf eg
  generalize R.any Pd = b at hi ⊢
  go_enter Try.func28, Try.ntmps28
  go_wp2_with fail
  refine hi.out.mono ?_
  rintro e w2 ⟨⟨i, rfl, h⟩, hb2⟩
  replace h := Lib.hid h
  clear hi
  by_cases h0 : 0 ≤ i
  · obtain rfl : b = true := h.out.1 h0
    clear h
    go_wp2
    go_ret
    exact ⟨by simp, hb2⟩
  · obtain rfl : b = false := by
      cases b with
      | false => rfl
      | true => exact absurd (h.out.2 rfl) h0
    clear h
    go_wp2
    go_ret
    exact ⟨by simp [h0], hb2⟩
end Go.Proofs.Ytpbmeeogledmdae
namespace Go.Proofs.Ytpbmeeogledmdae
open Go.RowKit

theorem in_el : ElT Try.prog 148 3 1 8 := ⟨Try.underlying148, by kernel_rfl, by kernel_rfl, by kernel_rfl, by omega, by omega⟩
theorem rsl_in (r : Int) (w : World) : (Instr.buildSlice 148 1 #[(0, .int .i64 r)]).run Try.prog w = .ok (.slice (some ⟨w.heap.size, 0, none⟩) 1 1) (w.alloc (.cells (inV r).toArray 3)) := by kernel_rfl
theorem in_one (r : Int) : ∀ v ∈ inV r, v.oneCell' = true := by simp [inV, Value.oneCell']
theorem inV_len (L : List Int) : ∀ x ∈ L.map inV, x.length = 1 := by
  intro x hx
  obtain ⟨s, _, rfl⟩ := List.mem_map.1 hx
  rfl
/-- the requests of a route -/
def picks (l : List (Int × Int)) : List Int := (l.filter (fun s => s.2 == 0)).map (·.1)
theorem picks_succ (l : List (Int × Int)) {k : Nat} (hk : k < l.length) : picks (l.take (k + 1)) = picks (l.take k) ++ (if l[k].2 = 0 then [l[k].1] else []) := by
  unfold picks
  rw [List.take_succ_eq_append_getElem hk, List.filter_append, List.map_append]
  congr 1
  by_cases h : l[k].2 = 0
  · rw [if_pos h]; simp [h]
  · rw [if_neg h]; simp [h]
theorem picks_len (l : List (Int × Int)) : (picks l).length ≤ l.length := by
  unfold picks
  rw [List.length_map]
  exact List.length_filter_le _ _

set_option maxHeartbeats 1000000 in
set_option maxRecDepth 100000 in
theorem requests_calls (p : Option Addr) (c : Nat) (l : List (Int × Int)) (w : World) (hE : Els w p 2 (l.map stV)) (h0 : chkP l = 0) :
    Calls Try.prog 79 #[.slice p l.length c] w fun e w' => (∃ q d, e = .returned (.slice q (picks l).length d) ∧ Els w' q 1 ((picks l).map inV)) ∧ Below w.heap.size w w' := by
  have hb : l.length ≤ 140737488351232 := by simpa using hE.big
  have hl16 := chkP_len h0
  have hk := Lib.hid (rcheck_calls p c l w hE)
  rw [h0] at hk
  replace hE := Lib.hid hE
  clear h0
  go_enter Try.func79, Try.ntmps79
  go_wp2_with fail
  refine hk.out.mono ?_
  rintro e w2 ⟨rfl, hb2⟩
  clear hk
  go_wp2_with fail
  go_loopw [2, 10] (fun o i wr => ∃ k : Nat, k ≤ l.length ∧ i = .int .i64 k ∧ wr.ownsRow w.heap.size 3 1 o (picks (l.take k)).length ((picks (l.take k)).map inV).flatten ∧ Below w.heap.size w wr) (fun _ i _ => l.length - (intOf i).toNat)
  case atStart => exact ⟨0, Nat.zero_le _, rfl, World.ownsRow_nil _ _ _ _, hb2⟩
  case round =>
    obtain ⟨k, hk, rfl, hown, hbr⟩ := hrel
    by_cases hlt : k < l.length
    · have hltI : (k : Int) < (l.length : Int) := by omega
      have s1 : IntKind.i64.wrap ((k : Int) + 1) = (k : Int) + 1 := IntWalk.i64_in _ (by omega)
      obtain ⟨a, rfl⟩ := (hE.out.below hbr).some_of (k := k) (by simpa using hlt)
      have hla := (hE.out.below hbr).load (P := Try.prog) (a := a) rfl (k := k) (by simpa using hlt) (ty := 81) Try.underlying81 rfl (by kernel_rfl)
      rw [List.getElem_map] at hla
      have hps := picks_succ l hlt
      obtain ⟨r, q, hs⟩ : ∃ r q, l[k] = (r, q) := ⟨_, _, rfl⟩
      rw [hs] at hla hps
      replace hla : Hid ((loadVar 81 (a.add (k * 2))).run Try.prog wr = .ok (.agg #[.int .i64 r, .int .i64 q]) wr) := Lib.hid hla
      have hown1 := own_mod hown ((Mod.refl (fun _ => False) wr).alloc (.cells #[.int .i64 r, .int .i64 q] 81)) (fun _ _ h => h)
      have hb1 := hbr.alloc hbr.size (.cells #[.int .i64 r, .int .i64 q] 81)
      have hpl := Nat.le_trans (picks_len (l.take k)) (List.length_take_le k l)
      by_cases h0 : q = 0
      · subst h0
        simp only [if_true] at hps
        have hownA := Lib.hid (own_mod hown1 ((Mod.refl (fun _ => False) _).alloc (.cells (inV r).toArray 3)) (fun _ _ h => h))
        have hzA := Lib.hid (hb1.alloc hb1.size (.cells (inV r).toArray 3)).size
        have hbA := Lib.hid (hb1.alloc hb1.size (.cells (inV r).toArray 3))
        replace hps := Lib.hid hps
        clear hs hown1 hb1 hown hbr
        go_upto_region 8 with (first | (refine wpList_load_v rfl 81 _ rfl (a.add (k * 2)) rfl _ hla.out ?_) | (refine wpList_bs1 rfl 148 1 0 _ rfl (.int .i64 r) rfl _ _ (rsl_in r _) ?_) |
            (refine wpList_appG in_el rfl _ _ rfl w.heap.size hzA.out _ _ _ rfl hownA.out (by omega) _ 1 1 (inV r) rfl rfl (by omega) (row_cells (Blk.new _ _ _)) (in_one _) ?_; intro v' w13 hown' hg'))
        have HO := Lib.hid hown'
        have HB := Lib.hid (grown_low hbA.out (Nat.le_refl _) (Nat.le_refl _) hownA.out hg')
        clear hown' hg' hownA hzA hbA hla
        go_wp2_with fail
        go_roundw
        case rel =>
          refine ⟨k + 1, by omega, by simp, ?_, HB.out⟩
          rw [hps.out, List.map_append, List.flatten_append, List.length_append]
          simpa using HO.out
        case measure => simp [intOf]; omega
      · have hps2 : picks (l.take (k + 1)) = picks (l.take k) := by rw [hps, if_neg h0, List.append_nil]
        have d1 : (q == 0) = false := beq_eq_false_iff_ne.2 h0
        replace hps2 := Lib.hid hps2
        replace hown1 := Lib.hid hown1
        replace hb1 := Lib.hid hb1
        clear hs hps hown hbr
        go_upto_region 8 with (first | (refine wpList_load_v rfl 81 _ rfl (a.add (k * 2)) rfl _ hla.out ?_))
        go_wp2_with fail
        go_roundw
        case rel => exact ⟨k + 1, by omega, by simp, by rw [hps2.out]; exact hown1.out, hb1.out⟩
        case measure => simp [intOf]; omega
    · obtain rfl : k = l.length := by omega
      rw [List.take_length] at hown
      obtain ⟨q, m, d, rfl⟩ := own_isS hown
      have hpl := picks_len l
      have hEl := own_els (inV_len (picks l)) (by simpa using hown) (by simp; omega)
      simp only [List.length_map] at hEl
      obtain ⟨h1, rfl, h3, h4⟩ := hEl
      replace h1 := Lib.hid h1
      replace hbr := Lib.hid hbr
      clear hown h4
      go_wp2
      go_ret
      exact ⟨⟨q, d, rfl, h1.out⟩, hbr.out⟩
theorem told1_calls (p : Option Addr) (n c b : Nat) (r : Int) (w : World) (h : w.cell? ⟨b, 0, none⟩ = some (.slice p n c)) :
    Calls Try.prog 81 #[.int .i64 r, .pointer (some ⟨b, 0, none⟩)] w fun e w' => e = .returned (.bool (decide ((n : Int) ≤ r))) ∧ Below w.heap.size w w' := by
  go_enter Try.func81, Try.ntmps81
  go_wp2
  go_ret
  exact ⟨by simp, Below.refl _ _⟩
/-- a request's number is known -/
theorem told2_calls (a : Addr) (c b : Nat) (t : List Rq) (n : Nat) (w : World) (hT : Els w (some a) 10 (t.map rqV)) (hn : n < t.length) (h : w.cell? ⟨b, 0, none⟩ = some (.slice (some a) t.length c)) :
    Calls Try.prog 82 #[.int .i64 (n : Int), .pointer (some ⟨b, 0, none⟩)] w fun e w' => e = .returned (.bool (rqE t[n] != 0)) ∧ Below w.heap.size w w' := by
  have hla := Lib.hid (hT.load (P := Try.prog) (a := a) rfl (k := n) (by simpa using hn) (ty := 61) Try.underlying61 rfl (by kernel_rfl))
  rw [List.getElem_map] at hla
  have hq := Lib.hid (check_calls (t[n] 0) (t[n] 1) (t[n] 2) (t[n] 3) (t[n] 4) (t[n] 5) (t[n] 6) (t[n] 7) (t[n] 8) (t[n] 9) w)
  have hqq : Hid (rqCode (t[n] 0) (t[n] 1) (t[n] 2) (t[n] 3) (t[n] 4) (t[n] 5) (t[n] 6) (t[n] 7) (t[n] 8) (t[n] 9) = rqE t[n]) := Lib.hid rfl
  rw [hqq.out] at hq
  have hnI : (n : Int) < t.length := by omega
  clear hqq hT
  generalize rqE t[n] = rc at hq ⊢
  generalize t[n] = q at hla hq
  go_enter Try.func82, Try.ntmps82
  go_wp2_with (first | (refine wpList_load_v rfl 61 _ rfl (a.add (n * 10)) rfl _ hla.out ?_))
  refine hq.out.mono ?_
  rintro e w2 ⟨rfl, hb2⟩
  clear hq hla
  go_wp2
  go_ret
  exact ⟨rfl, hb2⟩
/-- is a route told by a list? -/
def toldP (l : List (Int × Int)) (t : List Rq) : Int :=
  if chkP l ≠ 0 then chkP l else if l.any (fun s => decide ((t.length : Int) ≤ s.1)) then 8 else if l.any (fun s => rqE (t.getD s.1.toNat rqZ0) != 0) then 2 else 0
theorem ok_at {l : List (Int × Int)} (h : chkP l = 0) {j : Nat} {s : Int × Int} (hs : l[j]? = some s) : okAt (l.take j) s :=
  ((chkP_zero l (by have := chkP_len h; omega)).1 h).1 j s hs
theorem ok_mem {l : List (Int × Int)} (h : chkP l = 0) {s : Int × Int} (hs : s ∈ l) : 0 ≤ s.1 ∧ (s.2 = 0 ∨ s.2 = 1) ∧ (s.1, (0 : Int)) ∈ l := by
  obtain ⟨j, hj, rfl⟩ := List.getElem_of_mem hs
  have := ok_at h (List.getElem?_eq_getElem hj)
  unfold okAt at this
  obtain ⟨h1, h2⟩ := this
  refine ⟨h1, ?_, ?_⟩
  · rcases h2 with h2 | h2
    · exact .inl h2.1
    · exact .inr h2.1
  · rcases h2 with ⟨h2, _⟩ | ⟨_, h2, _⟩
    · have : l[j] = (l[j].1, 0) := by rw [← h2]
      rw [← this]; exact hs
    · have hm : (l[j].1, (0 : Int)) ∈ l.take j := List.count_pos_iff.1 (by omega)
      exact List.mem_of_mem_take hm
theorem picks_any {l : List (Int × Int)} (h : chkP l = 0) (f : Int → Bool) : (picks l).any f = l.any (fun s => f s.1) := by
  rw [Bool.eq_iff_iff, List.any_eq_true, List.any_eq_true]
  constructor
  · rintro ⟨r, hr, hf⟩
    unfold picks at hr
    obtain ⟨s, hs, rfl⟩ := List.mem_map.1 hr
    exact ⟨s, (List.mem_filter.1 hs).1, hf⟩
  · rintro ⟨s, hs, hf⟩
    refine ⟨s.1, ?_, hf⟩
    unfold picks
    exact List.mem_map.2 ⟨(s.1, 0), List.mem_filter.2 ⟨(ok_mem h hs).2.2, by simp⟩, rfl⟩
theorem picks_mem {l : List (Int × Int)} {r : Int} (h : r ∈ picks l) : ∃ s ∈ l, s.1 = r := by
  unfold picks at h
  obtain ⟨s, hs, rfl⟩ := List.mem_map.1 h
  exact ⟨s, (List.mem_filter.1 hs).1, rfl⟩

set_option maxHeartbeats 1000000 in
set_option maxRecDepth 100000 in
theorem told_calls (p p' : Option Addr) (c c' : Nat) (l : List (Int × Int)) (t : List Rq) (w : World) (hL : Els w p 2 (l.map stV)) (hT : Els w p' 10 (t.map rqV)) :
    Calls Try.prog 77 #[.slice p l.length c, .slice p' t.length c'] w fun e w' => e = .returned (.int .i64 (toldP l t)) ∧ Below w.heap.size w w' := by
  have hX : toldP l t = if chkP l ≠ 0 then chkP l else if l.any (fun s => decide ((t.length : Int) ≤ s.1)) then 8 else if l.any (fun s => rqE (t.getD s.1.toNat rqZ0) != 0) then 2 else 0 := rfl
  have hk := Lib.hid (fun wx (h : Below w.heap.size w wx) => rcheck_calls p c l wx (hL.below h))
  have hq := Lib.hid (fun wx (h : Below w.heap.size w wx) (h0 : chkP l = 0) => requests_calls p c l wx (hL.below h) h0)
  have hp1 := Lib.hid (fun (h0 : chkP l = 0) => picks_any h0 (fun r => decide ((t.length : Int) ≤ r)))
  have hp2 := Lib.hid (fun (h0 : chkP l = 0) => picks_any h0 (fun r => rqE (t.getD r.toNat rqZ0) != 0))
  have hpos := Lib.hid (fun (h0 : chkP l = 0) (r : Int) (hr : r ∈ picks l) => (by obtain ⟨s, hs, rfl⟩ := picks_mem hr; exact (ok_mem h0 hs).1 : 0 ≤ r))
  generalize toldP l t = X at hX ⊢
  generalize chkP l = ck at hX hk hq hp1 hp2 hpos
  replace hX := Lib.hid hX
  replace hL := Lib.hid hL
  replace hT := Lib.hid hT
  have hbx := new_below w (.cells #[.slice p' t.length c'] 30)
  have hBx := Blk.new w #[.slice p' t.length c'] 30
  go_enter Try.func77, Try.ntmps77
  go_wp2_with fail
  refine (hk.out _ hbx).mono ?_
  rintro e w2 ⟨rfl, hb2⟩
  replace hBx := hBx.mod ((Mod.refl (fun _ => False) _).after hb2) (fun h => h)
  replace hb2 := hbx.trans (hb2.mono hbx.size)
  clear hk hbx
  by_cases c0 : ck = 0
  · subst c0
    go_wp2_with fail
    refine (hq.out _ hb2 (by simp)).mono ?_
    rintro e w3 ⟨⟨q, d, rfl, hE⟩, hb3⟩
    replace hBx := hBx.mod ((Mod.refl (fun _ => False) _).after hb3) (fun h => h)
    replace hb3 := hb2.trans (hb3.mono hb2.size)
    have hcon := Lib.hid (contains_int q d (picks l) 81 #[.pointer (some ⟨w.heap.size, 0, none⟩)] (fun r => decide ((t.length : Int) ≤ r)) w3 hE (enters_of Try.func81 (by kernel_rfl) rfl)
      (fun r _ wx hb => told1_calls p' t.length c' w.heap.size r wx ((hBx.mod ((Mod.refl (fun _ => False) _).after hb) (fun h => h)).cell (i := 0) rfl)))
    rw [hp1.out (by simp)] at hcon
    have hX1 : X = if l.any (fun s => decide ((t.length : Int) ≤ s.1)) then 8 else if l.any (fun s => rqE (t.getD s.1.toNat rqZ0) != 0) then 2 else 0 := by rw [hX.out, if_neg (by simp)]
    have hsm : Hid (l.any (fun s => decide ((t.length : Int) ≤ s.1)) = false → ∀ r ∈ picks l, ∃ n : Nat, r = n ∧ n < t.length) := Lib.hid (fun h r hr => by
      have h0 := hpos.out (by simp) r hr
      obtain ⟨s, hs, rfl⟩ := picks_mem hr
      rw [List.any_eq_false] at h
      have := h s hs
      exact ⟨s.1.toNat, by omega, by simp at this; omega⟩)
    generalize l.any (fun s => decide ((t.length : Int) ≤ s.1)) = b1 at hcon hX1 hsm
    replace hX1 := Lib.hid hX1
    replace hE := Lib.hid hE
    replace hBx := Lib.hid hBx
    clear hX hb2 hq
    go_wp2_with fail
    refine hcon.out.mono ?_
    rintro e w4 ⟨rfl, hb4⟩
    replace hBx := Lib.hid (hBx.out.mod ((Mod.refl (fun _ => False) _).after hb4) (fun h => h))
    replace hE := Lib.hid (hE.out.below hb4)
    replace hb4 := hb3.trans (hb4.mono hb3.size)
    clear hcon hb3
    cases b1 with
    | true =>
      obtain rfl : X = 8 := hX1.out
      clear hX1
      go_wp2
      go_ret
      exact ⟨rfl, hb4⟩
    | false =>
      have hX2 : X = if l.any (fun s => rqE (t.getD s.1.toNat rqZ0) != 0) then 2 else 0 := hX1.out
      have hcon := Lib.hid (contains_int q d (picks l) 82 #[.pointer (some ⟨w.heap.size, 0, none⟩)] (fun r => rqE (t.getD r.toNat rqZ0) != 0) w4 hE.out (enters_of Try.func82 (by kernel_rfl) rfl)
        (fun r hr wx hb => by
          obtain ⟨n, rfl, hn⟩ := hsm.out (by simp) r hr
          have hTx := hT.out.below (hb4.trans (hb.mono hb4.size))
          obtain ⟨a, rfl⟩ := hTx.some_of (k := n) (by simpa using hn)
          have := told2_calls a c' w.heap.size t n wx hTx hn ((hBx.out.mod ((Mod.refl (fun _ => False) _).after hb) (fun h => h)).cell (i := 0) rfl)
          rw [← getD_at t hn] at this
          exact this))
      rw [hp2.out (by simp)] at hcon
      generalize l.any (fun s => rqE (t.getD s.1.toNat rqZ0) != 0) = b2 at hcon hX2
      replace hX2 := Lib.hid hX2
      clear hX1 hE hBx hsm hp1 hp2 hpos
      go_wp2_with fail
      refine hcon.out.mono ?_
      rintro e w5 ⟨rfl, hb5⟩
      replace hb5 := hb4.trans (hb5.mono hb4.size)
      clear hcon hb4
      cases b2 with
      | true =>
        obtain rfl : X = 2 := hX2.out
        clear hX2
        go_wp2
        go_ret
        exact ⟨rfl, hb5⟩
      | false =>
        obtain rfl : X = 0 := hX2.out
        clear hX2
        go_wp2
        go_ret
        exact ⟨rfl, hb5⟩
  · obtain rfl : X = ck := by rw [hX.out, if_pos c0]
    have d1 : (X == 0) = false := beq_eq_false_iff_ne.2 c0
    have d2 : (X != 0) = true := by rw [bne, d1]; rfl
    clear hX hBx hq hp1 hp2 hpos
    go_wp2_with fail
    go_ret
    exact ⟨rfl, hb2⟩
end Go.Proofs.Ytpbmeeogledmdae
