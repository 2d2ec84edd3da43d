/-
  Layer 11, the program's: put, Rise.
  Layer 11, the program's: places, way.
  Layer 11, the program's: way, Detour.
  Layer 11, the program's: Detour.
-/
import Derived.Test.YtpbmeeogledmdaeWi
import Derived.Test.YtpbmeeogledmdaeTmT
import Derived.Test.YtpbmeeogledmdaeFt
namespace Go.Proofs.Ytpbmeeogledmdae
open Go.RowKit

def puW (e : Int) : Option (List (Int × Int)) → List (Int × Int) × Int × Int
  | none => ([], 0, 8)
  | some m => (m, e, 0)
/-- the route with a request more, and the end of the one without it -/
def putP (x y cp st en : Int) (l : List (Int × Int)) (t : List Rq) (req i j : Int) : List (Int × Int) × Int × Int :=
  if req < 0 ∨ (t.length : Int) ≤ req ∨ l.any (fun s => s.1 == req) = true then ([], 0, 8)
  else if (tmP x y cp st en l t).2.2 ≠ 0 then ([], 0, (tmP x y cp st en l t).2.2)
  else if 16 < l.length + 2 then ([], 0, 11)
  else puW (tmP x y cp st en l t).2.1 (withP l req i j)
def PuPost (w : World) (R : List (Int × Int) × Int × Int) (e : Ending) (w' : World) : Prop :=
  (∃ q d, e = .returned (.tuple #[.slice q R.1.length d, .int .i64 R.2.1, .int .i64 R.2.2]) ∧ R.1.length ≤ d ∧ Els w' q 2 (R.1.map stV)) ∧ Below w.heap.size w w'
theorem pu_none {w w' : World} {k e : Int} (hb : Below w.heap.size w w') : PuPost w ([], k, e) (.returned (.tuple #[.slice none 0 0, .int .i64 k, .int .i64 e])) w' :=
  ⟨⟨none, 0, rfl, Nat.le_refl _, ⟨fun _ => rfl, fun x hx => (by cases hx), by simp, fun a ha => by cases ha⟩⟩, hb⟩
theorem put1_calls (b : Nat) (r k req : Int) (w : World) (h : w.cell? ⟨b, 0, none⟩ = some (.int .i64 req)) :
    Calls Try.prog 76 #[.agg #[.int .i64 r, .int .i64 k], .pointer (some ⟨b, 0, none⟩)] w fun e w' => e = .returned (.bool (r == req)) ∧ Below w.heap.size w w' := by
  have hb := new_below w (.cells #[.int .i64 r, .int .i64 k] 81)
  have hB := Blk.new w #[.int .i64 r, .int .i64 k] 81
  have h1 := hB.cell (i := 0) rfl
  have h2 := cellA (.cells #[.int .i64 r, .int .i64 k] 81) h
  clear hB
  go_enter Try.func76, Try.ntmps76
  go_wp2
  go_ret
  exact ⟨rfl, hb⟩

set_option maxHeartbeats 2000000 in
set_option maxRecDepth 100000 in
theorem put_calls (x y cp st en req i j : Int) (p p' : Option Addr) (c c' : Nat) (l : List (Int × Int)) (t : List Rq) (w : World) (hL : Els w p 2 (l.map stV)) (hc : l.length ≤ c) (hT : Els w p' 10 (t.map rqV)) :
    Calls Try.prog 72 #[.agg #[.int .i64 x, .int .i64 y, .int .i64 cp, .int .i64 st, .int .i64 en], .slice p l.length c, .slice p' t.length c', .int .i64 req, .int .i64 i, .int .i64 j] w (PuPost w (putP x y cp st en l t req i j)) := by
  have hbl : l.length ≤ 140737488351232 := by simpa using hL.big
  have hbt : t.length ≤ 140737488351232 := by simpa using hT.big
  have hX : putP x y cp st en l t req i j = if req < 0 ∨ (t.length : Int) ≤ req ∨ l.any (fun s => s.1 == req) = true then ([], 0, 8)
    else if (tmP x y cp st en l t).2.2 ≠ 0 then ([], 0, (tmP x y cp st en l t).2.2)
    else if 16 < l.length + 2 then ([], 0, 11)
    else puW (tmP x y cp st en l t).2.1 (withP l req i j) := rfl
  have hcon := Lib.hid (fun wx (h : Below w.heap.size w wx) (hq : wx.cell? ⟨w.heap.size + 1, 0, none⟩ = some (.int .i64 req)) => contains_stop p c l 76 #[.pointer (some ⟨w.heap.size + 1, 0, none⟩)] (fun s => s.1 == req) wx (hL.below h) (enters_of Try.func76 (by kernel_rfl) rfl)
    (fun r _ wy hy => put1_calls (w.heap.size + 1) r.1 r.2 req wy ((hy.cell (World.block_lt_of_cell? wx _ hq)).trans hq)))
  have ht := Lib.hid (fun wx (h : Below w.heap.size w wx) => times_calls x y cp st en p p' c c' l t wx (hL.below h) (hT.below h))
  have hwi := Lib.hid (fun wx (h : Below w.heap.size w wx) => with_calls p c l req i j wx (hL.below h) hc)
  generalize putP x y cp st en l t req i j = X at hX ⊢
  generalize l.any (fun s => s.1 == req) = b at hX hcon
  generalize withP l req i j = M at hX hwi
  generalize tmP x y cp st en l t = T at hX ht
  obtain ⟨L, en2, e2⟩ := T
  simp only at hX
  replace hX := Lib.hid hX
  obtain ⟨V, hV⟩ : ∃ V : Array Value, #[.int .i64 x, .int .i64 y, .int .i64 cp, .int .i64 st, .int .i64 en] = V := ⟨_, rfl⟩
  have hsV : V.size = 5 := by rw [← hV]; rfl
  have hlv := Lib.hid (fun wx (h : Blk wx w.heap.size V 47) => run_load_row' (P := Try.prog) wx w.heap.size 47 V 47 _ h Try.underlying47 rfl (by rw [hsV]; kernel_rfl))
  rw [hV] at ht ⊢
  clear hV hsV hL hT
  go_enter Try.func72, Try.ntmps72
  go_upto_region 1 with fail
  refine wp_world' (fun wx => Blk wx w.heap.size V 47 ∧ Blk wx (w.heap.size + 1) #[.int .i64 req] 3 ∧ Below w.heap.size w wx)
    ⟨(Blk.new _ _ _).alloc _, Blk.new' _ _ _ _, (new_below _ _).alloc (by simp) _⟩ ?_
  rintro w1 ⟨hB, hR, hb⟩
  have hq := hR.cell (i := 0) rfl
  by_cases c1 : req < 0
  · obtain rfl : X = ([], 0, 8) := by rw [hX.out, if_pos (.inl c1)]
    clear hX hcon ht hwi hlv
    go_wp2
    go_ret3
    exact pu_none hb
  by_cases c2 : req ≥ (t.length : Int)
  · obtain rfl : X = ([], 0, 8) := by rw [hX.out, if_pos (.inr (.inl c2))]
    clear hX hcon ht hwi hlv
    go_wp2
    go_ret3
    exact pu_none hb
  have hcn := Lib.hid (hcon.out w1 hb hq)
  replace hB := Lib.hid hB
  replace hR := Lib.hid hR
  clear hcon
  go_wp2_with fail
  refine hcn.out.mono ?_
  rintro e w2 ⟨rfl, hb2⟩
  have hM : Mod (fun _ => False) w1 w2 := (Mod.refl _ _).after hb2
  replace hB := hB.out.mod hM (fun h => h)
  replace hR := hR.out.mod hM (fun h => h)
  replace hb := hb.trans (hb2.mono hb.size)
  clear hM hb2 hq hcn
  cases b with
  | true =>
    obtain rfl : X = ([], 0, 8) := by rw [hX.out, if_pos (.inr (.inr rfl))]
    clear hX ht hwi hlv hB hR
    go_wp2
    go_ret3
    exact pu_none hb
  | false =>
    replace hX : Hid (X = if e2 ≠ 0 then (([], 0, e2) : List (Int × Int) × Int × Int) else if 16 < l.length + 2 then ([], 0, 11) else puW en2 M) := Lib.hid (by rw [hX.out, if_neg (by simp; omega)])
    have hlv2 := Lib.hid (hlv.out _ hB)
    replace hB := Lib.hid hB
    replace hR := Lib.hid hR
    clear hlv
    go_wp2_with (refine wpList_load_v rfl 47 _ rfl ⟨w.heap.size, 0, none⟩ rfl _ hlv2.out ?_)
    refine (ht.out _ hb).mono ?_
    rintro e w3 ⟨q, d, rfl, hb3, _, _, _⟩
    have hM : Mod (fun _ => False) w2 w3 := (Mod.refl _ _).after hb3
    have hq := (hR.out.mod hM (fun h => h)).cell (i := 0) rfl
    replace hb := hb.trans (hb3.mono hb.size)
    clear hM hb3 hlv2 ht hB hR
    by_cases e0 : e2 = 0
    · subst e0
      have s1 : IntKind.i64.wrap ((l.length : Int) + 2) = (l.length : Int) + 2 := IntWalk.i64_in _ (by omega)
      replace hX : Hid (X = if 16 < l.length + 2 then (([], 0, 11) : List (Int × Int) × Int × Int) else puW en2 M) := Lib.hid (by rw [hX.out, if_neg (by simp)])
      by_cases c5 : (l.length : Int) + 2 > 16
      · obtain rfl : X = ([], 0, 11) := by rw [hX.out, if_pos (by omega)]
        clear hX hwi
        go_wp2_with fail
        go_ret3
        exact pu_none hb
      · replace hX : Hid (X = puW en2 M) := Lib.hid (by rw [hX.out, if_neg (by omega)])
        go_wp2_with fail
        refine (hwi.out _ hb).mono ?_
        rintro e w4 ⟨⟨q2, d2, rfl, ⟨hd1, hd2⟩, hE⟩, hb4⟩
        replace hb := hb.trans (hb4.mono hb.size)
        clear hb4 hwi
        cases M with
        | none =>
          obtain rfl : X = ([], 0, 8) := hX.out
          clear hX
          go_wp2_with fail
          go_ret3
          exact pu_none hb
        | some m =>
          obtain rfl : X = (m, en2, 0) := hX.out
          replace hE := Lib.hid hE
          clear hX
          go_wp2_with fail
          go_ret3
          exact ⟨⟨q2, d2, rfl, hd1, hE.out⟩, hb⟩
    · obtain rfl : X = ([], 0, e2) := by rw [hX.out, if_pos e0]
      have g1 : (e2 == 0) = false := beq_eq_false_iff_ne.2 e0
      have g2 : (e2 != 0) = true := by rw [bne, g1]; rfl
      clear hX hwi
      go_wp2_with fail
      go_ret3
      exact pu_none hb

/-- by how much a route's end is later -/
def riseP (x y cp st en : Int) (l : List (Int × Int)) (t : List Rq) (req i j : Int) : Int × Int :=
  if (putP x y cp st en l t req i j).2.2 ≠ 0 then (0, (putP x y cp st en l t req i j).2.2)
  else if (fitP x y cp st en (putP x y cp st en l t req i j).1 t).2 ≠ 0 then (0, (fitP x y cp st en (putP x y cp st en l t req i j).1 t).2)
  else if (tmP x y cp st en (putP x y cp st en l t req i j).1 t).2.2 ≠ 0 then (0, (tmP x y cp st en (putP x y cp st en l t req i j).1 t).2.2)
  else (wrap64 ((tmP x y cp st en (putP x y cp st en l t req i j).1 t).2.1 - (putP x y cp st en l t req i j).2.1), 0)

set_option maxHeartbeats 2000000 in
set_option maxRecDepth 100000 in
theorem rise_calls (x y cp st en req i j : Int) (p p' : Option Addr) (c c' : Nat) (l : List (Int × Int)) (t : List Rq) (w : World) (hL : Els w p 2 (l.map stV)) (hc : l.length ≤ c) (hT : Els w p' 10 (t.map rqV)) :
    Calls Try.prog 69 #[.agg #[.int .i64 x, .int .i64 y, .int .i64 cp, .int .i64 st, .int .i64 en], .slice p l.length c, .slice p' t.length c', .int .i64 req, .int .i64 i, .int .i64 j] w fun e w' =>
      e = .returned (.tuple #[.int .i64 (riseP x y cp st en l t req i j).1, .int .i64 (riseP x y cp st en l t req i j).2]) ∧ Below w.heap.size w w' := by
  have hX : riseP x y cp st en l t req i j = if (putP x y cp st en l t req i j).2.2 ≠ 0 then (0, (putP x y cp st en l t req i j).2.2)
    else if (fitP x y cp st en (putP x y cp st en l t req i j).1 t).2 ≠ 0 then (0, (fitP x y cp st en (putP x y cp st en l t req i j).1 t).2)
    else if (tmP x y cp st en (putP x y cp st en l t req i j).1 t).2.2 ≠ 0 then (0, (tmP x y cp st en (putP x y cp st en l t req i j).1 t).2.2)
    else (wrap64 ((tmP x y cp st en (putP x y cp st en l t req i j).1 t).2.1 - (putP x y cp st en l t req i j).2.1), 0) := rfl
  have hp := Lib.hid (fun wx (h : Below w.heap.size w wx) => put_calls x y cp st en req i j p p' c c' l t wx (hL.below h) hc (hT.below h))
  have hf := Lib.hid (fun q d m wx (h : Below w.heap.size w wx) hE => fits_calls x y cp st en q p' d c' m t wx hE (hT.below h))
  have ht := Lib.hid (fun q d m wx (h : Below w.heap.size w wx) hE => times_calls x y cp st en q p' d c' m t wx hE (hT.below h))
  generalize riseP x y cp st en l t req i j = X at hX ⊢
  generalize putP x y cp st en l t req i j = U at hX hp
  obtain ⟨m, e0, r0⟩ := U
  simp only at hX
  replace hf := Lib.hid (fun q d => hf.out q d m)
  replace ht := Lib.hid (fun q d => ht.out q d m)
  generalize fitP x y cp st en m t = F at hX hf
  obtain ⟨f1, f2⟩ := F
  generalize tmP x y cp st en m t = T at hX ht
  obtain ⟨L, en2, e2⟩ := T
  simp only at hX
  replace hX := Lib.hid hX
  obtain ⟨V, hV⟩ : ∃ V : Array Value, #[.int .i64 x, .int .i64 y, .int .i64 cp, .int .i64 st, .int .i64 en] = V := ⟨_, rfl⟩
  have hsV : V.size = 5 := by rw [← hV]; rfl
  have hlv := Lib.hid (fun wx (h : Blk wx w.heap.size V 47) => run_load_row' (P := Try.prog) wx w.heap.size 47 V 47 _ h Try.underlying47 rfl (by rw [hsV]; kernel_rfl))
  rw [hV] at hp ht hf ⊢
  clear hV hsV hL hT
  go_enter Try.func69, Try.ntmps69
  go_upto_region 1 with fail
  refine wp_world' (fun wx => Blk wx w.heap.size V 47 ∧ Below w.heap.size w wx) ⟨Blk.new _ _ _, new_below _ _⟩ ?_
  rintro w1 ⟨hB, hb⟩
  have hl1 := Lib.hid (hlv.out _ hB)
  replace hB := Lib.hid hB
  go_wp2_with (refine wpList_load_v rfl 47 _ rfl ⟨w.heap.size, 0, none⟩ rfl _ hl1.out ?_)
  refine (hp.out _ hb).mono ?_
  rintro e w2 ⟨⟨q, d, rfl, hd, hE⟩, hb2⟩
  have hM : Mod (fun _ => False) w1 w2 := (Mod.refl _ _).after hb2
  replace hB := Lib.hid (hB.out.mod hM (fun h => h))
  replace hb := hb.trans (hb2.mono hb.size)
  replace hE : Els w2 q 2 (m.map stV) := hE
  clear hM hb2 hl1 hp
  by_cases z0 : r0 = 0
  · subst z0
    have hl2 := Lib.hid (hlv.out _ hB.out)
    have hfc := Lib.hid (hf.out q d _ hb hE)
    replace hE := Lib.hid hE
    clear hf
    go_wp2_with (refine wpList_load_v rfl 47 _ rfl ⟨w.heap.size, 0, none⟩ rfl _ hl2.out ?_)
    refine hfc.out.mono ?_
    rintro e w3 ⟨rfl, hb3⟩
    have hM : Mod (fun _ => False) w2 w3 := (Mod.refl _ _).after hb3
    replace hB := Lib.hid (hB.out.mod hM (fun h => h))
    replace hE := hE.out.below hb3
    replace hb := hb.trans (hb3.mono hb.size)
    clear hM hb3 hl2 hfc
    by_cases z1 : f2 = 0
    · subst z1
      have hl3 := Lib.hid (hlv.out _ hB.out)
      have htc := Lib.hid (ht.out q d _ hb hE)
      clear ht hE hB hlv
      go_wp2_with (refine wpList_load_v rfl 47 _ rfl ⟨w.heap.size, 0, none⟩ rfl _ hl3.out ?_)
      refine htc.out.mono ?_
      rintro e w4 ⟨q4, d4, rfl, hb4, _, _, _⟩
      replace hb := hb.trans (hb4.mono hb.size)
      clear hb4 htc hl3
      by_cases z2 : e2 = 0
      · subst z2
        obtain rfl : X = (wrap64 (en2 - e0), 0) := by rw [hX.out, if_neg (by simp), if_neg (by simp), if_neg (by simp)]
        clear hX
        go_wp2_with fail
        go_ret2
        exact ⟨rfl, hb⟩
      · obtain rfl : X = (0, e2) := by rw [hX.out, if_neg (by simp), if_neg (by simp), if_pos z2]
        have g1 : (e2 == 0) = false := beq_eq_false_iff_ne.2 z2
        have g2 : (e2 != 0) = true := by rw [bne, g1]; rfl
        clear hX
        go_wp2_with fail
        go_ret2
        exact ⟨rfl, hb⟩
    · obtain rfl : X = (0, f2) := by rw [hX.out, if_neg (by simp), if_pos z1]
      have g1 : (f2 == 0) = false := beq_eq_false_iff_ne.2 z1
      have g2 : (f2 != 0) = true := by rw [bne, g1]; rfl
      clear hX hE hB hlv ht
      go_wp2_with fail
      go_ret2
      exact ⟨rfl, hb⟩
  · obtain rfl : X = (0, r0) := by rw [hX.out, if_pos z0]
    have g1 : (r0 == 0) = false := beq_eq_false_iff_ne.2 z0
    have g2 : (r0 != 0) = true := by rw [bne, g1]; rfl
    clear hX hE hB hlv ht hf
    go_wp2_with fail
    go_ret2
    exact ⟨rfl, hb⟩
end Go.Proofs.Ytpbmeeogledmdae
namespace Go.Proofs.Ytpbmeeogledmdae
open Go.RowKit

/-- a stop's place -/
def plP (s : Int × Int) (t : List Rq) : Int × Int := ((ptG s t).x, (ptG s t).y)


/-- the places of stops, and home -/
def plcL (x y : Int) (l : List (Int × Int)) (t : List Rq) : List (Int × Int) := (x, y) :: l.map fun s => plP s t
theorem own_one (w : World) (base : Nat) (h : base ≤ w.heap.size) (s : Int × Int) : (w.alloc (.cells (stV s).toArray 45)).ownsRow base 45 2 (.slice (some ⟨w.heap.size, 0, none⟩) 1 1) 1 (stV s) :=
  ⟨rfl, .inr ⟨w.heap.size, 1, (stV s).toArray, rfl, h, World.alloc_heap_new w _, Nat.le_refl _, by unfold maxLen; omega, rfl, rfl⟩⟩

end Go.Proofs.Ytpbmeeogledmdae
namespace Go.Proofs.Ytpbmeeogledmdae
open Go.RowKit

/-- the way on, from a place, by others, to home -/
def wayR (hx hy : Int) : Int → Int → List (Int × Int) → Int → Int
  | ax, ay, [], n => wrap64 (n + dsP ax ay hx hy)
  | ax, ay, p :: r, n => wayR hx hy p.1 p.2 r (wrap64 (n + dsP ax ay p.1 p.2))
def wayL : List (Int × Int) → Int
  | [] => 0
  | h :: r => wayR h.1 h.2 h.1 h.2 r 0
def zP : Int × Int := (0, 0)
/-- what is still to come, at place k -/
def wayK (L : List (Int × Int)) (k : Nat) (n : Int) : Int :=
  if k < L.length then wayR (L.getD 0 zP).1 (L.getD 0 zP).2 (L.getD k zP).1 (L.getD k zP).2 (L.drop (k + 1)) n else n
theorem wayK_zero {L : List (Int × Int)} (h : 0 < L.length) : wayK L 0 0 = wayL L := by
  cases L with
  | nil => cases h
  | cons p r => simp [wayK, wayL]
theorem wayK_step {L : List (Int × Int)} {k m : Nat} (h : k < L.length) (hm : m = (k + 1) % L.length) (n : Int) :
    wayK L k n = wayK L (k + 1) (wrap64 (n + dsP (L.getD k zP).1 (L.getD k zP).2 (L.getD m zP).1 (L.getD m zP).2)) := by
  unfold wayK
  rw [if_pos h]
  by_cases h1 : k + 1 < L.length
  · rw [if_pos h1, hm, Nat.mod_eq_of_lt h1, List.drop_eq_getElem_cons h1]
    simp [wayR, h1]
  · have h2 : k + 1 = L.length := by omega
    rw [if_neg h1, hm, h2, Nat.mod_self, List.drop_length]
    simp [wayR]

end Go.Proofs.Ytpbmeeogledmdae
namespace Go.Proofs.Ytpbmeeogledmdae
open Go.RowKit

theorem run_sub64 {ρ : Operand → Value} {o : Oper} {w : World} {x y : Operand} {m n : Int} (ho : o.op = .binOp .sub 3 x y 3) (hx : ρ x = .int .i64 m) (hy : ρ y = .int .i64 n) : (execOp ρ o).run Try.prog w = .ok (.value (.int .i64 (wrap64 (m - n)))) w := by
  unfold execOp
  simp only [ho, hx, hy]
  go_simp
  rw [IntWalk.i64_left]
/-- a row of pairs that lies there -/
def RowAt (W : World) (v : Value) (L : List (Int × Int)) : Prop := ∃ q d, v = .slice q L.length d ∧ Els W q 2 (L.map stV)
theorem RowAt.mod {A B : World} {v : Value} {L : List (Int × Int)} (h : RowAt A v L) (hm : Mod (fun _ => False) A B) : RowAt B v L := by
  obtain ⟨q, d, h1, h2⟩ := h
  exact ⟨q, d, h1, h2.below (hm.below (Nat.le_refl _) (fun _ h => h.elim))⟩
theorem putP_zero {x y cp st en req i j : Int} {l : List (Int × Int)} {t : List Rq} (h : (putP x y cp st en l t req i j).2.2 = 0) :
    l.length ≤ 14 ∧ (putP x y cp st en l t req i j).1.length = l.length + 2 ∧ withP l req i j = some (putP x y cp st en l t req i j).1 ∧ (tmP x y cp st en l t).2.2 = 0 ∧ (putP x y cp st en l t req i j).2.1 = (tmP x y cp st en l t).2.1 ∧ (0 ≤ req ∧ req < t.length ∧ ∀ s ∈ l, s.1 ≠ req) := by
  unfold putP at h ⊢
  by_cases h1 : req < 0 ∨ (t.length : Int) ≤ req ∨ l.any (fun s => s.1 == req) = true
  · rw [if_pos h1] at h; cases h
  rw [if_neg h1] at h ⊢
  by_cases h2 : (tmP x y cp st en l t).2.2 ≠ 0
  · rw [if_pos h2] at h; exact absurd h h2
  rw [if_neg h2] at h ⊢
  by_cases h3 : 16 < l.length + 2
  · rw [if_pos h3] at h; cases h
  rw [if_neg h3] at h ⊢
  cases hw : withP l req i j with
  | none => rw [hw] at h; cases h
  | some m =>
    refine ⟨by omega, ?_, rfl, by simpa using h2, rfl, by omega, by omega, fun s hs e => h1 (.inr (.inr (List.any_eq_true.2 ⟨s, hs, by simp [e]⟩)))⟩
    unfold withP at hw
    by_cases h4 : i < 0 ∨ j < i ∨ (l.length : Int) < j ∨ req < 0 ∨ l.any (fun s => s.1 == req) = true ∨ 16 < l.length + 2
    · rw [if_pos h4] at hw; cases hw
    · rw [if_neg h4] at hw
      cases hw
      exact withL_len l req (by omega) (by omega)
/-- by how much a route's way is longer -/
def detP (x y cp st en : Int) (l : List (Int × Int)) (t : List Rq) (req i j : Int) : Int × Int :=
  if (putP x y cp st en l t req i j).2.2 ≠ 0 then (0, (putP x y cp st en l t req i j).2.2)
  else (wrap64 (wayL (plcL x y (putP x y cp st en l t req i j).1 t) - wayL (plcL x y l t)), 0)

end Go.Proofs.Ytpbmeeogledmdae
