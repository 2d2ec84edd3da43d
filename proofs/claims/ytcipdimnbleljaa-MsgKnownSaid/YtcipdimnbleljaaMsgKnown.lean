/-
  'MsgKnown': it returns true.
-/
import Derived.Test.YtcipdimnbleljaaWorks
import Derived.Test.YtcipdimnbleljaaKnB
import Derived.Test.YtcipdimnbleljaaSeq
namespace Go.Proofs.Ytcipdimnbleljaa
open Go.RowKit
open Extern.Stop (cell)

def fullMs (k : Nat) : List (Int × List UInt8) := (List.range k).map fun (c : Nat) => ((c : Int), UInt8.ofNat c :: List.replicate 31 0)
def fullM (p : Option Addr) (cap : Nat) : MV := { zeroM with kind := 3, round := 15, ms := fullMs 8, p := p, cap := cap }
theorem fullMs_succ (k : Nat) : fullMs (k + 1) = fullMs k ++ [((k : Int), UInt8.ofNat k :: List.replicate 31 0)] := by
  unfold fullMs
  rw [List.range_succ, List.map_append]
  rfl
theorem fullMs_len (k : Nat) : (fullMs k).length = k := by simp [fullMs]
theorem fullMs_dig (k : Nat) : ∀ x ∈ fullMs k, x.2.length = 32 := by
  intro x hx
  unfold fullMs at hx
  obtain ⟨c, _, rfl⟩ := List.mem_map.1 hx
  simp
theorem full_good (p : Option Addr) (cap : Nat) : Good (fullM p cap) :=
  ⟨(by show mayB (fullM none 0) = true; decide), (by
    have h : MsgRg (fullM none 0) := rg_lit (by decide)
    exact ⟨h.kind, h.round, h.carrier, h.req, h.reserve, h.rq, h.ms, h.bid, h.nonce, h.state, h.winner, h.price⟩), (by show dg0.length = 32; decide), fun x hx => fullMs_dig 8 x hx⟩
theorem full_of (p : Option Addr) (cap : Nat) : MsgOf ((two 3 15).setIfInBounds 47 (.slice p 8 cap)) (fullM p cap) := by
  have h := two_of 3 15
  have hz := h.size
  refine ⟨by rw [Array.size_setIfInBounds]; exact hz, ?_, ?_, ?_, ?_, ?_, ?_, ?_, rfl, ?_, ?_, ?_, ?_, ?_, ?_⟩
  · rw [set_ne (by omega)]; exact h.h0
  · rw [set_ne (by omega)]; exact h.h1
  · rw [set_ne (by omega)]; exact h.h2
  · rw [set_ne (by omega)]; exact h.h3
  · rw [set_ne (by omega)]; exact h.h4
  · intro i hi; rw [set_ne (by omega)]; exact h.h5 i hi
  · intro i hi; rw [set_ne (by omega)]; exact h.h15 i hi
  · rw [set_eq (by omega)]; rfl
  · rw [set_ne (by omega)]; exact h.h48
  · rw [set_ne (by omega)]; exact h.h49
  · rw [set_ne (by omega)]; exact h.h50
  · rw [set_ne (by omega)]; exact h.h51
  · rw [set_ne (by omega)]; exact h.h52
def dgK (k : Nat) : Array Value := ((UInt8.ofNat k :: List.replicate 31 0).map cell).toArray
theorem rdg0 (w : World) : (Instr.build 37 #[(0, .int .u8 0)]).run Try.prog w = .ok (.agg (dgK 0)) w := by kernel_rfl
theorem rdg1 (w : World) : (Instr.build 37 #[(0, .int .u8 1)]).run Try.prog w = .ok (.agg (dgK 1)) w := by kernel_rfl
theorem rdg2 (w : World) : (Instr.build 37 #[(0, .int .u8 2)]).run Try.prog w = .ok (.agg (dgK 2)) w := by kernel_rfl
theorem rdg3 (w : World) : (Instr.build 37 #[(0, .int .u8 3)]).run Try.prog w = .ok (.agg (dgK 3)) w := by kernel_rfl
theorem rdg4 (w : World) : (Instr.build 37 #[(0, .int .u8 4)]).run Try.prog w = .ok (.agg (dgK 4)) w := by kernel_rfl
theorem rdg5 (w : World) : (Instr.build 37 #[(0, .int .u8 5)]).run Try.prog w = .ok (.agg (dgK 5)) w := by kernel_rfl
theorem rdg6 (w : World) : (Instr.build 37 #[(0, .int .u8 6)]).run Try.prog w = .ok (.agg (dgK 6)) w := by kernel_rfl
theorem rdg7 (w : World) : (Instr.build 37 #[(0, .int .u8 7)]).run Try.prog w = .ok (.agg (dgK 7)) w := by kernel_rfl
theorem run_dgK (k : Nat) (hk : k < 8) (w : World) : (Instr.build 37 #[(0, .int .u8 k)]).run Try.prog w = .ok (.agg (dgK k)) w := by
  have h : k = 0 ∨ k = 1 ∨ k = 2 ∨ k = 3 ∨ k = 4 ∨ k = 5 ∨ k = 6 ∨ k = 7 := by omega
  rcases h with rfl | rfl | rfl | rfl | rfl | rfl | rfl | rfl
  · exact rdg0 w
  · exact rdg1 w
  · exact rdg2 w
  · exact rdg3 w
  · exact rdg4 w
  · exact rdg5 w
  · exact rdg6 w
  · exact rdg7 w
theorem dgK_size (k : Nat) : (dgK k).size = 32 := by simp [dgK]
theorem dgK_cells (k : Nat) : (markA k (dgK k)).toList = mkCells [((k : Int), UInt8.ofNat k :: List.replicate 31 0)] := by simp [markA, dgK, mkCells, markRow]
theorem own_is {w : World} {b : Nat} {e : TypeId} {n : Nat} {v : Value} {k : Nat} {xs : List Value} (h : w.ownsRow b e n v k xs) : ∃ p m c, v = .slice p m c := by
  rcases h.2 with ⟨hv, _⟩ | ⟨g, cap, cur, hv, _⟩
  · exact ⟨_, _, _, hv⟩
  · exact ⟨_, _, _, hv⟩
theorem row_one (p : Option Addr) (n c : Nat) : ∀ v ∈ ((two 3 15).setIfInBounds 47 (.slice p n c)).toList, v.oneCell' = true := by
  intro v hv
  rw [Array.toList_setIfInBounds] at hv
  rcases List.mem_or_eq_of_mem_set hv with h | h
  · exact two_one 3 15 v h
  · subst h; rfl

theorem kn_grown {w wr w' : World} {C : Array Value} {t e : TypeId} {v : Value} {k n : Nat} {xs : List Value} (h : Blk wr w.heap.size C t) (ho : wr.ownsRow (w.heap.size + 1) e n v k xs) (hg : wr.grownBy w' v.ownBlock) : Blk w' w.heap.size C t :=
  blk_grown h hg fun e => by have := ho.lt _ e.symm; omega
theorem kn_below {w wr w' : World} {e : TypeId} {v : Value} {k n : Nat} {xs : List Value} (hb : Below w.heap.size w wr) (_ : w.heap.size < wr.heap.size) {o : Obj} (ho : (wr.alloc o).ownsRow (w.heap.size + 1) e n v k xs) (hg : (wr.alloc o).grownBy w' v.ownBlock) : Below w.heap.size w w' := by
  have h1 := hb.alloc hb.size o
  have hm : Mod (fun k => w.heap.size ≤ k) (wr.alloc o) w' := (Mod.refl _ _).grown hg (fun k hk _ => by have := ho.lt k hk; omega)
  exact h1.trans (hm.below h1.size (fun _ g => g))
theorem kn_set {w w' : World} {p : Option Addr} {n c : Nat} (h : Blk w' w.heap.size ((two 3 15).setIfInBounds 47 (.slice p n c)) 42) (p' : Option Addr) (n' c' : Nat) : Blk (w'.setCell ⟨w.heap.size, 47, none⟩ (.slice p' n' c')) w.heap.size ((two 3 15).setIfInBounds 47 (.slice p' n' c')) 42 := by
  have := h.set 47 (.slice p' n' c')
  rwa [show ((two 3 15).setIfInBounds 47 (.slice p n c)).setIfInBounds 47 (.slice p' n' c') = (two 3 15).setIfInBounds 47 (.slice p' n' c') by apply Array.ext_getElem?; intro i; simp only [Array.getElem?_setIfInBounds, Array.size_setIfInBounds]; split <;> rfl] at this

theorem kn_al (w : World) (o : Obj) : Below w.heap.size w (w.alloc o) := (Below.refl _ _).alloc (Nat.le_refl _) o
theorem marks_row {w : World} {g : Nat} {m : MV} (hp : m.p = some ⟨g, 0, none⟩) (hB : Blk w g (mkCells m.ms).toArray 65) (hl : ∀ x ∈ m.ms, x.2.length = 32) (hb : m.ms.length ≤ 9223372036854775807) : MarksAt w m :=
  ⟨(fun h => by rw [hp] at h; cases h), hl, hb, fun a ha j v hj => by
    rw [hp] at ha
    cases ha
    have e1 : (⟨g, 0, none⟩ : Addr).add j = ⟨g, j, none⟩ := by unfold Addr.add; split <;> simp_all
    rw [e1]
    exact hB.cell (by simpa using hj)⟩
theorem bds_marks {w : World} {g : Nat} (h0 : Blk w g (mk2 0 0) 65) (h1 : Blk w (g + 1) (mk1 8) 65) (h2 : Blk w (g + 2) (mk2 3 2) 65) : ∀ m ∈ bds g, MarksAt w m := by
  intro m hm
  simp only [bds, List.mem_cons, List.not_mem_nil, or_false] at hm
  rcases hm with rfl | rfl | rfl | rfl | rfl | rfl | rfl | rfl | rfl | rfl | rfl | rfl | rfl | rfl | rfl | rfl | rfl | rfl | rfl | rfl | rfl | rfl
  · exact nil_marks _ w rfl
  · exact nil_marks _ w rfl
  · exact nil_marks _ w rfl
  · exact nil_marks _ w rfl
  · exact nil_marks _ w rfl
  · exact nil_marks _ w rfl
  · exact nil_marks _ w rfl
  · exact nil_marks _ w rfl
  · exact nil_marks _ w rfl
  · exact nil_marks _ w rfl
  · exact nil_marks _ w rfl
  · exact marks_row rfl h0 (by show ∀ x ∈ [((0 : Int), dg0), (0, dg0)], x.2.length = 32; decide) (by show 2 ≤ _; omega)
  · exact marks_row rfl h1 (by show ∀ x ∈ [((8 : Int), dg0)], x.2.length = 32; decide) (by show 1 ≤ _; omega)
  · exact marks_row rfl h2 (by show ∀ x ∈ [((3 : Int), dg0), (2, dg0)], x.2.length = 32; decide) (by show 2 ≤ _; omega)
  · exact nil_marks _ w rfl
  · exact nil_marks _ w rfl
  · exact nil_marks _ w rfl
  · exact nil_marks _ w rfl
  · exact nil_marks _ w rfl
  · exact nil_marks _ w rfl
  · exact nil_marks _ w rfl
  · exact nil_marks _ w rfl

theorem wpList_self {P : Program} {ops : Array Oper} {l : List Oper} {a : Act} {w : World} {Q : Exit → Act → World → Prop} (h : wpList P ops Q l a w) : wpList P ops Q l a w := h
theorem eval_const (a : Act) (v : Value) : a.eval (.const v) = v := rfl
theorem wpList_bd {P : Program} {ops : Array Oper} {rest : List Oper} {o : Oper} {a : Act} {w : World} {Q : Exit → Act → World → Prop} (d : Nat) (hd : o.dst = some d) (hgd : o.guard = none) {ty : TypeId} {vs : Array (Nat × Value)} {v : Value} (hrun : (Instr.build ty vs).run P w = .ok v w)
    {parts : Array (Nat × Operand)} (ho : o.op = .build ty parts) (hp : (parts.map fun (i, x) => (i, a.eval x)) = vs) (h : wpList P ops Q rest (a.put (some d) v) w) : wpList P ops Q (o :: rest) a w :=
  wpList_plain hgd fun _ hK => by
    unfold Oper.wp execOp
    simp only [ho, hp, Sem.run_bind, hrun, Sem.run_pure, Result.andThen_ok]
    rw [← hd] at h
    exact hK _ _ h
theorem wpList_sd {P : Program} {ops : Array Oper} {rest : List Oper} {o : Oper} {a : Act} {w w' : World} {Q : Exit → Act → World → Prop} (d : Nat) (hd : o.dst = some d) (hgd : o.guard = none) {t : TypeId} {n : Nat} {vs : Array (Nat × Value)} {v : Value} (hrun : (Instr.buildSlice t n vs).run P w = .ok v w')
    {parts : Array (Nat × Operand)} (ho : o.op = .buildSlice t n parts) (hp : (parts.map fun (i, x) => (i, a.eval x)) = vs) (h : wpList P ops Q rest (a.put (some d) v) w') : wpList P ops Q (o :: rest) a w :=
  wpList_plain hgd fun _ hK => by
    unfold Oper.wp execOp
    simp only [ho, hp, Sem.run_bind, hrun, Sem.run_pure, Result.andThen_ok]
    rw [← hd] at h
    exact hK _ _ h
theorem kn_two (w : World) (g k : Nat) (L : List MV) (m : MV) (hk : L[k]? = some m) (hB : Blk w g (rowOf (L.map mkC)) 42) : (loadVar 42 ⟨g, k * 53, none⟩).run Try.prog w = .ok (.agg (mkC m)) w := by
  have h53 : ∀ C ∈ L.map mkC, C.size = 53 := by
    intro C hC
    obtain ⟨m, _, rfl⟩ := List.mem_map.1 hC
    exact mkC_size m
  have hm : (L.map mkC)[k]? = some (mkC m) := by rw [List.getElem?_map, hk]; rfl
  have hl := (List.getElem?_eq_some_iff.1 hm).1
  rw [load_part (P := Try.prog) w g _ _ hB (k * 53) 53 (by rw [rowOf_size _ h53]; omega) 42 _ Try.underlying42 rfl (by kernel_rfl), rowOf_part _ h53 k _ hm]
theorem wpList_bs1_v {P : Program} {ops : Array Oper} {rest : List Oper} {o : Oper} {a : Act} {w : World} {Q : Exit → Act → World → Prop} (hgd : o.guard = none) (t : TypeId) (n i : Nat) (x : Operand) (ho : o.op = .buildSlice t n #[(i, x)])
    (vx : Value) (hx : a.eval x = vx) (v : Value) (w' : World) (hrun : (Instr.buildSlice t n #[(i, vx)]).run P w = .ok v w') (h : wpList P ops Q rest (a.put o.dst v) w') : wpList P ops Q (o :: rest) a w :=
  wpList_bs_v hgd t n _ ho #[(i, vx)] (by simp only [List.map_toArray, List.map_cons, List.map_nil, hx]) v w' hrun h
theorem wpList_bs2_v {P : Program} {ops : Array Oper} {rest : List Oper} {o : Oper} {a : Act} {w : World} {Q : Exit → Act → World → Prop} (hgd : o.guard = none) (t : TypeId) (n i j : Nat) (x y : Operand) (ho : o.op = .buildSlice t n #[(i, x), (j, y)])
    (vx vy : Value) (hx : a.eval x = vx) (hy : a.eval y = vy) (v : Value) (w' : World) (hrun : (Instr.buildSlice t n #[(i, vx), (j, vy)]).run P w = .ok v w') (h : wpList P ops Q rest (a.put o.dst v) w') : wpList P ops Q (o :: rest) a w :=
  wpList_bs_v hgd t n _ ho #[(i, vx), (j, vy)] (by simp only [List.map_toArray, List.map_cons, List.map_nil, hx, hy]) v w' hrun h

set_option maxHeartbeats 4000000 in
set_option maxRecDepth 100000 in
theorem MsgKnown_calls (w : World) : Calls Try.prog 8 #[] w fun e w' => e = .returned (.bool true) ∧ Below w.heap.size w w' := by
  go_enter Try.func8, Try.ntmps8
  go_upto_region 1 with fail
  have hs0 := Lib.hid (show zero53.size = (two 3 15).size by rfl)
  have hs1 := Lib.hid (two_one 3 15)
  have hs2 := Lib.hid (msg_size (two 3 15) rfl)
  go_upto_region 2 with (first | (refine wpList_build2_v rfl 42 0 1 _ _ rfl (.int .i64 3) (.int .i64 15) rfl rfl (.agg (two 3 15)) (run_two 3 15 _) ?_) | (refine wpList_store_new rfl 42 _ _ rfl rfl rfl _ (two 3 15) _ rfl (by exact hs0.out) hs1.out hs2.out ?_))
  refine wp_world' (fun wx => Blk wx w.heap.size ((two 3 15).setIfInBounds 47 (.slice none 0 0)) 42 ∧ wx.heap.size = w.heap.size + 1 ∧ Below w.heap.size w wx) ⟨Blk.new w _ _, by simp, (Below.refl _ _).alloc (Nat.le_refl _) _⟩ ?_
  rintro w1 ⟨hB, hz, hb⟩
  clear hs0 hs1 hs2
  go_wp2_with fail
  go_loopw [2] (fun i wr => ∃ k : Nat, k ≤ 8 ∧ i = .int .i64 k ∧ ∃ p n c, wr.ownsRow (w.heap.size + 1) 65 33 (.slice p n c) k (mkCells (fullMs k)) ∧ Blk wr w.heap.size ((two 3 15).setIfInBounds 47 (.slice p n c)) 42 ∧ Below w.heap.size w wr) (fun i _ => 8 - (intOf i).toNat)
  case atStart => exact ⟨0, by omega, rfl, none, 0, 0, World.ownsRow_nil _ _ _ _, hB, hb⟩
  case round =>
    obtain ⟨k, hk8, rfl, p, n, c, hown, hB, hb⟩ := hrel
    by_cases hlt : k < 8
    · have c47 := hB.cell (show ((two 3 15).setIfInBounds 47 (.slice p n c))[47]? = some (.slice p n c) from set_eq (by decide))
      have hw8 : IntKind.u8.wrap (k : Int) = k := IntWalk.u8_in _ (by omega)
      have HO := Lib.hid hown
      have HB := Lib.hid hB
      have hdk := Lib.hid (run_dgK k hlt)
      have hmk := Lib.hid (run_mark k (dgK k) (dgK_size k))
      have hms := Lib.hid (run_marks k (dgK k) (dgK_size k))
      have hm1 := Lib.hid (show ∀ u ∈ (markA k (dgK k)).toList, u.oneCell' = true by
        intro u hu
        rw [dgK_cells] at hu
        exact mkCells_one _ u hu)
      have hB2 := hB.lt
      have hbz := Lib.hid (show ∀ o, w.heap.size + 1 ≤ (wr.alloc o).heap.size from fun o => by simp; omega)
      clear hown hB
      go_upto_region 4 with (with_reducible refine wpList_self ?_; first | (refine wpList_build1_v rfl 37 0 _ rfl (.int .u8 k) rfl (.agg (dgK k)) (hdk.out _) ?_) | (refine wpList_build2_v rfl 65 0 1 _ _ rfl (.int .i64 k) (.agg (dgK k)) rfl rfl (.agg (markA k (dgK k))) (hmk.out _) ?_) | (refine wpList_bs1_v rfl 38 1 0 _ rfl (.agg (markA k (dgK k))) rfl _ _ (hms.out _) ?_) | (refine wpList_appM rfl _ _ rfl (w.heap.size + 1) (hbz.out _) _ k _ rfl (own_below HO.out (kn_al _ _)) (by omega) _ (markA k (dgK k)) rfl (Blk.new _ _ _) (markA_size k (dgK k) (dgK_size k)) hm1.out ?_; intro v' w' hown' hg'; obtain ⟨p', n', c', rfl⟩ := own_is hown'; have HB' := kn_grown (HB.out.alloc _) (own_below HO.out (kn_al _ _)) hg'; have c47' := HB'.cell (show ((two 3 15).setIfInBounds 47 (.slice p n c))[47]? = some (.slice p n c) from set_eq (by decide)); have f47' := HB'.froz 47))
      have hb2 := kn_below hb hB2 (own_below HO.out (kn_al _ _)) hg'
      have HB'' := Lib.hid (kn_set HB' p' n' c')
      have HO'' := Lib.hid (ownsRow_setCell_below hown' (a := ⟨w.heap.size, 47, none⟩) (by show w.heap.size < w.heap.size + 1; omega) (.slice p' n' c'))
      clear HB' hown' hg'
      go_wp2_with fail
      go_roundw
      case rel => exact ⟨k + 1, by omega, by go_num, p', n', c', by rw [fullMs_succ, mkCells_append, ← dgK_cells]; exact HO''.out, HB''.out, hb2.setCell (Nat.le_refl _) _⟩
      case measure => simp [intOf]; omega
    · obtain rfl : k = 8 := by omega
      obtain ⟨q, cap, e, hks, hpb⟩ := mks_of_own hown (fullMs_dig 8) (by rw [fullMs_len]; omega)
      rw [fullMs_len] at e
      cases e
      have hof := full_of p c
      have HG := Lib.hid (full_good p c)
      have hMA := Lib.hid (show MarksAt _ (fullM p c) from ⟨hks.nil, hks.len, hks.big, hks.cells⟩)
      have hsS := enc_size (full_good p c)
      rw [show lenOf (fullM p c) = 266 from rfl] at hsS
      have hdE := Lib.hid (dec_enc (full_good p c))
      have hen := Lib.hid (encode_calls _ _ _ hof hMA.out (full_good p c).rg)
      rw [(full_good p c).encE] at hen
      generalize hMF : (two 3 15).setIfInBounds 47 (.slice p 8 c) = MF at hof hB hen
      generalize hS : encS (fullM p c) = S at hsS hdE hen
      have hld := Lib.hid (fun wx (h : Blk wx w.heap.size MF 42) => run_load_row' (P := Try.prog) wx w.heap.size 42 MF 42 _ h Try.underlying42 rfl (msg_size MF hof.size))
      have HB := Lib.hid hB
      have Hof := Lib.hid hof
      have hpb' := Lib.hid hpb
      have hks' := Lib.hid hks
      clear hown hB hof hpb hks hMF hS
      go_wp2_with (refine wpList_load_v rfl 42 _ rfl ⟨w.heap.size, 0, none⟩ rfl _ (hld.out _ HB.out) ?_)
      refine hen.out.mono ?_
      rintro e w2 ⟨rfl, hb2⟩
      have hdc := Lib.hid (fun wx => decode_calls S wx (by omega))
      unfold DecPost at hdc
      rw [hdE.out.1] at hdc
      have hlf := Lib.hid (fun wx (h : Below wr.heap.size wr wx) => hld.out wx (HB.out.mod ((Mod.refl (fun _ => False) _).after h) (fun h => h)))
      have hsm := Lib.hid (fun (C : Array Value) (p : Option Addr) (wx : World) (hC : MsgOf C (decR S p)) (hA : MarksAt wx (decR S p)) (h : Below wr.heap.size wr wx) => (by
        have h1 := same_calls C MF _ _ wx hC Hof.out hA.mks (marks_below hMA.out h).mks
        rwa [(alB_iff _ _).2 (hdE.out.2 p)] at h1 : Calls Try.prog 19 #[.agg C, .agg MF] wx fun e w' => e = .returned (.bool true) ∧ Below wx.heap.size wx w'))
      clear hen hks' hpb' HB hld hMA Hof HG hdE
      go_wp2_with fail
      refine (hdc.out _).mono ?_
      rintro e w3 ⟨C, pd, rfl, hb3, hC, hA, -⟩
      replace hb3 := hb2.trans (hb3.mono hb2.size)
      have hnew := Lib.hid (show zero53.size = C.size by rw [hC.size]; rfl)
      have hone := Lib.hid (msg_one hC)
      have hsz := Lib.hid (msg_size C hC.size)
      have HC := Lib.hid hC
      have HA := Lib.hid hA
      clear hC hA hb2 hdc
      go_upto_region 8 with (refine wpList_store_new rfl 42 _ _ rfl rfl rfl _ C _ rfl (by exact hnew.out) hone.out hsz.out ?_)
      refine wp_world' (fun wx => Below wr.heap.size wr wx ∧ MarksAt wx (decR S pd) ∧ Blk wx w3.heap.size C 42) ⟨hb3.alloc hb3.size _, marks_below HA.out ((Below.refl _ _).alloc (Nat.le_refl _) _), Blk.new _ _ _⟩ ?_
      rintro w4 ⟨hb4, hA4, hB4⟩
      generalize w3.heap.size = g3 at *
      have hl3 := Lib.hid (run_load_row' (P := Try.prog) w4 g3 42 C 42 _ hB4 Try.underlying42 rfl hsz.out)
      have hsm4 := Lib.hid (hsm.out C pd w4 HC.out hA4 hb4)
      clear HA hA4 hB4 hsm hb3 hnew hone HC hsz
      go_wp2_with (first | (refine wpList_load_v rfl 42 _ rfl ⟨g3, 0, none⟩ rfl _ hl3.out ?_) | (refine wpList_load_v rfl 42 _ rfl ⟨w.heap.size, 0, none⟩ rfl _ (hlf.out _ hb4) ?_))
      refine hsm4.out.mono ?_
      rintro e w5 ⟨rfl, hb5⟩
      replace hb5 := hb4.trans (hb5.mono hb4.size)
      have hb6 := hb.trans (hb5.mono hb.size)
      clear hb4 hl3 hlf hsm4 hb5
      go_upto_region 9 with fail
      have hg1 : w.heap.size ≤ w5.heap.size := hb6.size
      refine wp_region_seq [(59, .agg (mkC my0)), (60, .agg (mkC my1)), (61, .agg #[.int .i64 4, .int .i64 7, .int .u64 16777216]), (62, .agg (mkC my2)), (63, .agg #[.int .i64 0, .int .i64 1048576]), (64, .agg #[.int .i64 0, .int .i64 0, .int .i64 0, .int .i64 0, .int .i64 0, .int .i64 1048576, .int .i64 0, .int .i64 0, .int .i64 1000, .int .i64 1000]), (65, .agg (mkC my3)), (66, .slice (some ⟨w5.heap.size, 0, none⟩) 4 4), (8, .slice (some ⟨w5.heap.size, 0, none⟩) 4 4)] (fun k w' => w' = if k ≤ 7 then w5 else (w5.alloc (.cells (rowOf (mys.map mkC)) 42))) (by kernel_rfl) (by kernel_rfl) (by kernel_rfl) rfl ?_ ?_
      · intro aF hAF
        have T59 : aF.tmps[59]? = some (.agg (mkC my0)) := by rw [hAF]; kernel_rfl
        have E59 : aF.eval (.tmp 59) = .agg (mkC my0) := by rw [hAF]; kernel_rfl
        have T60 : aF.tmps[60]? = some (.agg (mkC my1)) := by rw [hAF]; kernel_rfl
        have E60 : aF.eval (.tmp 60) = .agg (mkC my1) := by rw [hAF]; kernel_rfl
        have T61 : aF.tmps[61]? = some (.agg #[.int .i64 4, .int .i64 7, .int .u64 16777216]) := by rw [hAF]; kernel_rfl
        have E61 : aF.eval (.tmp 61) = .agg #[.int .i64 4, .int .i64 7, .int .u64 16777216] := by rw [hAF]; kernel_rfl
        have T62 : aF.tmps[62]? = some (.agg (mkC my2)) := by rw [hAF]; kernel_rfl
        have E62 : aF.eval (.tmp 62) = .agg (mkC my2) := by rw [hAF]; kernel_rfl
        have T63 : aF.tmps[63]? = some (.agg #[.int .i64 0, .int .i64 1048576]) := by rw [hAF]; kernel_rfl
        have E63 : aF.eval (.tmp 63) = .agg #[.int .i64 0, .int .i64 1048576] := by rw [hAF]; kernel_rfl
        have T64 : aF.tmps[64]? = some (.agg #[.int .i64 0, .int .i64 0, .int .i64 0, .int .i64 0, .int .i64 0, .int .i64 1048576, .int .i64 0, .int .i64 0, .int .i64 1000, .int .i64 1000]) := by rw [hAF]; kernel_rfl
        have E64 : aF.eval (.tmp 64) = .agg #[.int .i64 0, .int .i64 0, .int .i64 0, .int .i64 0, .int .i64 0, .int .i64 1048576, .int .i64 0, .int .i64 0, .int .i64 1000, .int .i64 1000] := by rw [hAF]; kernel_rfl
        have T65 : aF.tmps[65]? = some (.agg (mkC my3)) := by rw [hAF]; kernel_rfl
        have E65 : aF.eval (.tmp 65) = .agg (mkC my3) := by rw [hAF]; kernel_rfl
        have T66 : aF.tmps[66]? = some (.slice (some ⟨w5.heap.size, 0, none⟩) 4 4) := by rw [hAF]; kernel_rfl
        have E66 : aF.eval (.tmp 66) = .slice (some ⟨w5.heap.size, 0, none⟩) 4 4 := by rw [hAF]; kernel_rfl
        have T8 : aF.tmps[8]? = some (.slice (some ⟨w5.heap.size, 0, none⟩) 4 4) := by rw [hAF]; kernel_rfl
        have E8 : aF.eval (.tmp 8) = .slice (some ⟨w5.heap.size, 0, none⟩) 4 4 := by rw [hAF]; kernel_rfl
        clear hAF
        refine ⟨?_, ?_, ?_, ?_, ?_, ?_, ?_, ?_, ?_, trivial⟩
        · exact seqOk_op _ (by intro t hd _; cases hd; exact T59) rfl fun w' hc => by rw [show w' = w5 from hc]; exact sv (run_bdn rfl (by simp only [List.map_toArray, List.map_cons, List.map_nil, eval_const]) (rmy0 _)) rfl
        · exact seqOk_op _ (by intro t hd _; cases hd; exact T60) rfl fun w' hc => by rw [show w' = w5 from hc]; exact sv (run_bdn rfl (by simp only [List.map_toArray, List.map_cons, List.map_nil, eval_const]) (rmy1 _)) rfl
        · exact seqOk_op _ (by intro t hd _; cases hd; exact T61) rfl fun w' hc => by rw [show w' = w5 from hc]; exact sv (run_bdn rfl (by simp only [List.map_toArray, List.map_cons, List.map_nil, eval_const]) (rout4 _)) rfl
        · exact seqOk_op _ (by intro t hd _; cases hd; exact T62) rfl fun w' hc => by rw [show w' = w5 from hc]; exact sv (run_bdn rfl (by simp only [List.map_toArray, List.map_cons, List.map_nil, E61, eval_const]) (rmy2 _)) rfl
        · exact seqOk_op _ (by intro t hd _; cases hd; exact T63) rfl fun w' hc => by rw [show w' = w5 from hc]; exact sv (run_bdn rfl (by simp only [List.map_toArray, List.map_cons, List.map_nil, eval_const]) (rwin _)) rfl
        · exact seqOk_op _ (by intro t hd _; cases hd; exact T64) rfl fun w' hc => by rw [show w' = w5 from hc]; exact sv (run_bdn rfl (by simp only [List.map_toArray, List.map_cons, List.map_nil, E63, eval_const]) (rreq4 _)) rfl
        · exact seqOk_op _ (by intro t hd _; cases hd; exact T65) rfl fun w' hc => by rw [show w' = w5 from hc]; exact sv (run_bdn rfl (by simp only [List.map_toArray, List.map_cons, List.map_nil, E64, eval_const]) (rmy3 _)) rfl
        · exact seqOk_op _ (by intro t hd _; cases hd; exact T66) rfl fun w' hc => by rw [show w' = w5 from hc]; exact sv (run_sdn rfl (by simp only [List.map_toArray, List.map_cons, List.map_nil, E59, E60, E62, E65]) (rmys _)) rfl
        · exact seqOk_op _ (by intro t hd _; cases hd; exact T8) rfl fun w' hc => by rw [show w' = (w5.alloc (.cells (rowOf (mys.map mkC)) 42)) from hc]; exact sv (run_asg rfl E66) rfl
      · intro w' hc
        rw [show w' = (w5.alloc (.cells (rowOf (mys.map mkC)) 42)) from hc]
        simp only [putAll, List.foldl_cons, List.foldl_nil, Act.put, List.setIfInBounds_toArray, List.set_cons_succ, List.set_cons_zero]
        go_upto_region 10 with fail
        refine wp_world' (fun wx => Blk wx w5.heap.size (rowOf (mys.map mkC)) 42 ∧ Below w.heap.size w wx) ⟨Blk.new _ _ _, hb6.alloc hb6.size _⟩ ?_
        rintro w6 ⟨hR6, hb6⟩
        generalize w5.heap.size = g1 at *
        obtain ⟨gg, hgg⟩ : ∃ gg, w6.heap.size = gg := ⟨_, rfl⟩
        have f0 := rsl0 w6
        have f1 := rsl8 (w6.alloc (.cells (mk2 0 0) 65))
        have f2 := rsl3 ((w6.alloc (.cells (mk2 0 0) 65)).alloc (.cells (mk1 8) 65))
        have f3 := rbds gg (((w6.alloc (.cells (mk2 0 0) 65)).alloc (.cells (mk1 8) 65)).alloc (.cells (mk2 3 2) 65))
        have s1 : (w6.alloc (.cells (mk2 0 0) 65)).heap.size = gg + 1 := by simp [hgg]
        have s2 : ((w6.alloc (.cells (mk2 0 0) 65)).alloc (.cells (mk1 8) 65)).heap.size = gg + 2 := by simp [hgg]
        have s3 : (((w6.alloc (.cells (mk2 0 0) 65)).alloc (.cells (mk1 8) 65)).alloc (.cells (mk2 3 2) 65)).heap.size = gg + 3 := by simp [hgg]
        rw [hgg] at f0
        rw [s1] at f1
        rw [s2] at f2
        rw [s3] at f3
        have B0 := Lib.hid (show Blk (w6.alloc (.cells (mk2 0 0) 65)) gg (mk2 0 0) 65 from hgg ▸ Blk.new w6 _ _)
        have B1 := Lib.hid (show Blk ((w6.alloc (.cells (mk2 0 0) 65)).alloc (.cells (mk1 8) 65)) (gg + 1) (mk1 8) 65 from s1 ▸ Blk.new _ _ _)
        have B2 := Lib.hid (show Blk (((w6.alloc (.cells (mk2 0 0) 65)).alloc (.cells (mk1 8) 65)).alloc (.cells (mk2 3 2) 65)) (gg + 2) (mk2 3 2) 65 from s2 ▸ Blk.new _ _ _)
        have B3 := Lib.hid (show Blk ((((w6.alloc (.cells (mk2 0 0) 65)).alloc (.cells (mk1 8) 65)).alloc (.cells (mk2 3 2) 65)).alloc (.cells (rowOf ((bds gg).map mkC)) 42)) (gg + 3) (rowOf ((bds gg).map mkC)) 42 from s3 ▸ Blk.new _ _ _)
        have z6 := hb6.size
        have b1 := hb6.alloc z6 (.cells (mk2 0 0) 65)
        have b2 := b1.alloc b1.size (.cells (mk1 8) 65)
        have b3 := b2.alloc b2.size (.cells (mk2 3 2) 65)
        have b4 := Lib.hid (b3.alloc b3.size (.cells (rowOf ((bds gg).map mkC)) 42))
        replace f0 := Lib.hid f0
        replace f1 := Lib.hid f1
        replace f2 := Lib.hid f2
        replace f3 := Lib.hid f3
        have HR6 := Lib.hid hR6
        clear s1 s2 s3 b1 b2 b3 hR6 hgg
        refine wp_region_seq [(67, .agg (mkC bd0)), (68, .agg (mkC bd1)), (69, .agg (mkC bd2)), (70, .agg (mkC bd3)), (71, .agg (mkC bd4)), (72, .agg (mkC bd5)), (73, .agg (mkC bd6)), (74, .agg (mkC bd7)), (75, .agg (mkC bd8)), (76, .agg (mkC bd9)), (77, .agg (mkC bd10)), (78, .agg (mkR 0)), (79, .agg (mkR 0)), (80, .slice (some ⟨gg, 0, none⟩) 2 2), (81, .agg (mkC (bd11 gg))), (82, .agg (mkR 8)), (83, .slice (some ⟨gg + 1, 0, none⟩) 1 1), (84, .agg (mkC (bd12 gg))), (85, .agg (mkR 3)), (86, .agg (mkR 2)), (87, .slice (some ⟨gg + 2, 0, none⟩) 2 2), (88, .agg (mkC (bd13 gg))), (89, .agg (mkC bd14)), (90, .agg #[.int .i64 3, .int .i64 0, .int .u64 0]), (91, .agg (mkC bd15)), (92, .agg #[.int .i64 2, .int .i64 (-1), .int .u64 0]), (93, .agg (mkC bd16)), (94, .agg #[.int .i64 2, .int .i64 0, .int .u64 16777217]), (95, .agg (mkC bd17)), (96, .agg #[.int .i64 5, .int .i64 0, .int .u64 0]), (97, .agg (mkC bd18)), (98, .agg (mkC bd19)), (99, .agg #[.int .i64 0, .int .i64 0, .int .i64 0, .int .i64 0, .int .i64 0, .int .i64 0, .int .i64 0, .int .i64 0, .int .i64 1, .int .i64 0]), (100, .agg (mkC bd20)), (101, .agg #[.int .i64 0, .int .i64 0, .int .i64 0, .int .i64 0, .int .i64 0, .int .i64 0, .int .i64 0, .int .i64 0, .int .i64 1, .int .i64 0]), (102, .agg (mkC bd21)), (103, .slice (some ⟨gg + 3, 0, none⟩) 22 22), (9, .slice (some ⟨gg + 3, 0, none⟩) 22 22)] (fun k w' => w' = if k ≤ 13 then w6 else if k ≤ 16 then (w6.alloc (.cells (mk2 0 0) 65)) else if k ≤ 20 then ((w6.alloc (.cells (mk2 0 0) 65)).alloc (.cells (mk1 8) 65)) else if k ≤ 36 then (((w6.alloc (.cells (mk2 0 0) 65)).alloc (.cells (mk1 8) 65)).alloc (.cells (mk2 3 2) 65)) else ((((w6.alloc (.cells (mk2 0 0) 65)).alloc (.cells (mk1 8) 65)).alloc (.cells (mk2 3 2) 65)).alloc (.cells (rowOf ((bds gg).map mkC)) 42))) (by kernel_rfl) (by kernel_rfl) (by kernel_rfl) rfl ?_ ?_
        · intro aF hAF
          have T67 : aF.tmps[67]? = some (.agg (mkC bd0)) := by rw [hAF]; kernel_rfl
          have E67 : aF.eval (.tmp 67) = .agg (mkC bd0) := by rw [hAF]; kernel_rfl
          have T68 : aF.tmps[68]? = some (.agg (mkC bd1)) := by rw [hAF]; kernel_rfl
          have E68 : aF.eval (.tmp 68) = .agg (mkC bd1) := by rw [hAF]; kernel_rfl
          have T69 : aF.tmps[69]? = some (.agg (mkC bd2)) := by rw [hAF]; kernel_rfl
          have E69 : aF.eval (.tmp 69) = .agg (mkC bd2) := by rw [hAF]; kernel_rfl
          have T70 : aF.tmps[70]? = some (.agg (mkC bd3)) := by rw [hAF]; kernel_rfl
          have E70 : aF.eval (.tmp 70) = .agg (mkC bd3) := by rw [hAF]; kernel_rfl
          have T71 : aF.tmps[71]? = some (.agg (mkC bd4)) := by rw [hAF]; kernel_rfl
          have E71 : aF.eval (.tmp 71) = .agg (mkC bd4) := by rw [hAF]; kernel_rfl
          have T72 : aF.tmps[72]? = some (.agg (mkC bd5)) := by rw [hAF]; kernel_rfl
          have E72 : aF.eval (.tmp 72) = .agg (mkC bd5) := by rw [hAF]; kernel_rfl
          have T73 : aF.tmps[73]? = some (.agg (mkC bd6)) := by rw [hAF]; kernel_rfl
          have E73 : aF.eval (.tmp 73) = .agg (mkC bd6) := by rw [hAF]; kernel_rfl
          have T74 : aF.tmps[74]? = some (.agg (mkC bd7)) := by rw [hAF]; kernel_rfl
          have E74 : aF.eval (.tmp 74) = .agg (mkC bd7) := by rw [hAF]; kernel_rfl
          have T75 : aF.tmps[75]? = some (.agg (mkC bd8)) := by rw [hAF]; kernel_rfl
          have E75 : aF.eval (.tmp 75) = .agg (mkC bd8) := by rw [hAF]; kernel_rfl
          have T76 : aF.tmps[76]? = some (.agg (mkC bd9)) := by rw [hAF]; kernel_rfl
          have E76 : aF.eval (.tmp 76) = .agg (mkC bd9) := by rw [hAF]; kernel_rfl
          have T77 : aF.tmps[77]? = some (.agg (mkC bd10)) := by rw [hAF]; kernel_rfl
          have E77 : aF.eval (.tmp 77) = .agg (mkC bd10) := by rw [hAF]; kernel_rfl
          have T78 : aF.tmps[78]? = some (.agg (mkR 0)) := by rw [hAF]; kernel_rfl
          have E78 : aF.eval (.tmp 78) = .agg (mkR 0) := by rw [hAF]; kernel_rfl
          have T79 : aF.tmps[79]? = some (.agg (mkR 0)) := by rw [hAF]; kernel_rfl
          have E79 : aF.eval (.tmp 79) = .agg (mkR 0) := by rw [hAF]; kernel_rfl
          have T80 : aF.tmps[80]? = some (.slice (some ⟨gg, 0, none⟩) 2 2) := by rw [hAF]; kernel_rfl
          have E80 : aF.eval (.tmp 80) = .slice (some ⟨gg, 0, none⟩) 2 2 := by rw [hAF]; kernel_rfl
          have T81 : aF.tmps[81]? = some (.agg (mkC (bd11 gg))) := by rw [hAF]; kernel_rfl
          have E81 : aF.eval (.tmp 81) = .agg (mkC (bd11 gg)) := by rw [hAF]; kernel_rfl
          have T82 : aF.tmps[82]? = some (.agg (mkR 8)) := by rw [hAF]; kernel_rfl
          have E82 : aF.eval (.tmp 82) = .agg (mkR 8) := by rw [hAF]; kernel_rfl
          have T83 : aF.tmps[83]? = some (.slice (some ⟨gg + 1, 0, none⟩) 1 1) := by rw [hAF]; kernel_rfl
          have E83 : aF.eval (.tmp 83) = .slice (some ⟨gg + 1, 0, none⟩) 1 1 := by rw [hAF]; kernel_rfl
          have T84 : aF.tmps[84]? = some (.agg (mkC (bd12 gg))) := by rw [hAF]; kernel_rfl
          have E84 : aF.eval (.tmp 84) = .agg (mkC (bd12 gg)) := by rw [hAF]; kernel_rfl
          have T85 : aF.tmps[85]? = some (.agg (mkR 3)) := by rw [hAF]; kernel_rfl
          have E85 : aF.eval (.tmp 85) = .agg (mkR 3) := by rw [hAF]; kernel_rfl
          have T86 : aF.tmps[86]? = some (.agg (mkR 2)) := by rw [hAF]; kernel_rfl
          have E86 : aF.eval (.tmp 86) = .agg (mkR 2) := by rw [hAF]; kernel_rfl
          have T87 : aF.tmps[87]? = some (.slice (some ⟨gg + 2, 0, none⟩) 2 2) := by rw [hAF]; kernel_rfl
          have E87 : aF.eval (.tmp 87) = .slice (some ⟨gg + 2, 0, none⟩) 2 2 := by rw [hAF]; kernel_rfl
          have T88 : aF.tmps[88]? = some (.agg (mkC (bd13 gg))) := by rw [hAF]; kernel_rfl
          have E88 : aF.eval (.tmp 88) = .agg (mkC (bd13 gg)) := by rw [hAF]; kernel_rfl
          have T89 : aF.tmps[89]? = some (.agg (mkC bd14)) := by rw [hAF]; kernel_rfl
          have E89 : aF.eval (.tmp 89) = .agg (mkC bd14) := by rw [hAF]; kernel_rfl
          have T90 : aF.tmps[90]? = some (.agg #[.int .i64 3, .int .i64 0, .int .u64 0]) := by rw [hAF]; kernel_rfl
          have E90 : aF.eval (.tmp 90) = .agg #[.int .i64 3, .int .i64 0, .int .u64 0] := by rw [hAF]; kernel_rfl
          have T91 : aF.tmps[91]? = some (.agg (mkC bd15)) := by rw [hAF]; kernel_rfl
          have E91 : aF.eval (.tmp 91) = .agg (mkC bd15) := by rw [hAF]; kernel_rfl
          have T92 : aF.tmps[92]? = some (.agg #[.int .i64 2, .int .i64 (-1), .int .u64 0]) := by rw [hAF]; kernel_rfl
          have E92 : aF.eval (.tmp 92) = .agg #[.int .i64 2, .int .i64 (-1), .int .u64 0] := by rw [hAF]; kernel_rfl
          have T93 : aF.tmps[93]? = some (.agg (mkC bd16)) := by rw [hAF]; kernel_rfl
          have E93 : aF.eval (.tmp 93) = .agg (mkC bd16) := by rw [hAF]; kernel_rfl
          have T94 : aF.tmps[94]? = some (.agg #[.int .i64 2, .int .i64 0, .int .u64 16777217]) := by rw [hAF]; kernel_rfl
          have E94 : aF.eval (.tmp 94) = .agg #[.int .i64 2, .int .i64 0, .int .u64 16777217] := by rw [hAF]; kernel_rfl
          have T95 : aF.tmps[95]? = some (.agg (mkC bd17)) := by rw [hAF]; kernel_rfl
          have E95 : aF.eval (.tmp 95) = .agg (mkC bd17) := by rw [hAF]; kernel_rfl
          have T96 : aF.tmps[96]? = some (.agg #[.int .i64 5, .int .i64 0, .int .u64 0]) := by rw [hAF]; kernel_rfl
          have E96 : aF.eval (.tmp 96) = .agg #[.int .i64 5, .int .i64 0, .int .u64 0] := by rw [hAF]; kernel_rfl
          have T97 : aF.tmps[97]? = some (.agg (mkC bd18)) := by rw [hAF]; kernel_rfl
          have E97 : aF.eval (.tmp 97) = .agg (mkC bd18) := by rw [hAF]; kernel_rfl
          have T98 : aF.tmps[98]? = some (.agg (mkC bd19)) := by rw [hAF]; kernel_rfl
          have E98 : aF.eval (.tmp 98) = .agg (mkC bd19) := by rw [hAF]; kernel_rfl
          have T99 : aF.tmps[99]? = some (.agg #[.int .i64 0, .int .i64 0, .int .i64 0, .int .i64 0, .int .i64 0, .int .i64 0, .int .i64 0, .int .i64 0, .int .i64 1, .int .i64 0]) := by rw [hAF]; kernel_rfl
          have E99 : aF.eval (.tmp 99) = .agg #[.int .i64 0, .int .i64 0, .int .i64 0, .int .i64 0, .int .i64 0, .int .i64 0, .int .i64 0, .int .i64 0, .int .i64 1, .int .i64 0] := by rw [hAF]; kernel_rfl
          have T100 : aF.tmps[100]? = some (.agg (mkC bd20)) := by rw [hAF]; kernel_rfl
          have E100 : aF.eval (.tmp 100) = .agg (mkC bd20) := by rw [hAF]; kernel_rfl
          have T101 : aF.tmps[101]? = some (.agg #[.int .i64 0, .int .i64 0, .int .i64 0, .int .i64 0, .int .i64 0, .int .i64 0, .int .i64 0, .int .i64 0, .int .i64 1, .int .i64 0]) := by rw [hAF]; kernel_rfl
          have E101 : aF.eval (.tmp 101) = .agg #[.int .i64 0, .int .i64 0, .int .i64 0, .int .i64 0, .int .i64 0, .int .i64 0, .int .i64 0, .int .i64 0, .int .i64 1, .int .i64 0] := by rw [hAF]; kernel_rfl
          have T102 : aF.tmps[102]? = some (.agg (mkC bd21)) := by rw [hAF]; kernel_rfl
          have E102 : aF.eval (.tmp 102) = .agg (mkC bd21) := by rw [hAF]; kernel_rfl
          have T103 : aF.tmps[103]? = some (.slice (some ⟨gg + 3, 0, none⟩) 22 22) := by rw [hAF]; kernel_rfl
          have E103 : aF.eval (.tmp 103) = .slice (some ⟨gg + 3, 0, none⟩) 22 22 := by rw [hAF]; kernel_rfl
          have T9 : aF.tmps[9]? = some (.slice (some ⟨gg + 3, 0, none⟩) 22 22) := by rw [hAF]; kernel_rfl
          have E9 : aF.eval (.tmp 9) = .slice (some ⟨gg + 3, 0, none⟩) 22 22 := by rw [hAF]; kernel_rfl
          clear hAF
          refine ⟨?_, ?_, ?_, ?_, ?_, ?_, ?_, ?_, ?_, ?_, ?_, ?_, ?_, ?_, ?_, ?_, ?_, ?_, ?_, ?_, ?_, ?_, ?_, ?_, ?_, ?_, ?_, ?_, ?_, ?_, ?_, ?_, ?_, ?_, ?_, ?_, ?_, ?_, trivial⟩
          · exact seqOk_op _ (by intro t hd _; cases hd; exact T67) rfl fun w' hc => by rw [show w' = w6 from hc]; exact sv (run_bdn rfl (by simp only [List.map_toArray, List.map_nil]) (rbd0 _)) rfl
          · exact seqOk_op _ (by intro t hd _; cases hd; exact T68) rfl fun w' hc => by rw [show w' = w6 from hc]; exact sv (run_bdn rfl (by simp only [List.map_toArray, List.map_cons, List.map_nil, eval_const]) (rbd1 _)) rfl
          · exact seqOk_op _ (by intro t hd _; cases hd; exact T69) rfl fun w' hc => by rw [show w' = w6 from hc]; exact sv (run_bdn rfl (by simp only [List.map_toArray, List.map_cons, List.map_nil, eval_const]) (rbd2 _)) rfl
          · exact seqOk_op _ (by intro t hd _; cases hd; exact T70) rfl fun w' hc => by rw [show w' = w6 from hc]; exact sv (run_bdn rfl (by simp only [List.map_toArray, List.map_cons, List.map_nil, eval_const]) (rbd3 _)) rfl
          · exact seqOk_op _ (by intro t hd _; cases hd; exact T71) rfl fun w' hc => by rw [show w' = w6 from hc]; exact sv (run_bdn rfl (by simp only [List.map_toArray, List.map_cons, List.map_nil, eval_const]) (rbd4 _)) rfl
          · exact seqOk_op _ (by intro t hd _; cases hd; exact T72) rfl fun w' hc => by rw [show w' = w6 from hc]; exact sv (run_bdn rfl (by simp only [List.map_toArray, List.map_cons, List.map_nil, eval_const]) (rbd5 _)) rfl
          · exact seqOk_op _ (by intro t hd _; cases hd; exact T73) rfl fun w' hc => by rw [show w' = w6 from hc]; exact sv (run_bdn rfl (by simp only [List.map_toArray, List.map_cons, List.map_nil, eval_const]) (rbd6 _)) rfl
          · exact seqOk_op _ (by intro t hd _; cases hd; exact T74) rfl fun w' hc => by rw [show w' = w6 from hc]; exact sv (run_bdn rfl (by simp only [List.map_toArray, List.map_cons, List.map_nil, eval_const]) (rbd7 _)) rfl
          · exact seqOk_op _ (by intro t hd _; cases hd; exact T75) rfl fun w' hc => by rw [show w' = w6 from hc]; exact sv (run_bdn rfl (by simp only [List.map_toArray, List.map_cons, List.map_nil, eval_const]) (rbd8 _)) rfl
          · exact seqOk_op _ (by intro t hd _; cases hd; exact T76) rfl fun w' hc => by rw [show w' = w6 from hc]; exact sv (run_bdn rfl (by simp only [List.map_toArray, List.map_cons, List.map_nil, eval_const]) (rbd9 _)) rfl
          · exact seqOk_op _ (by intro t hd _; cases hd; exact T77) rfl fun w' hc => by rw [show w' = w6 from hc]; exact sv (run_bdn rfl (by simp only [List.map_toArray, List.map_cons, List.map_nil, eval_const]) (rbd10 _)) rfl
          · exact seqOk_op _ (by intro t hd _; cases hd; exact T78) rfl fun w' hc => by rw [show w' = w6 from hc]; exact sv (run_bdn rfl (by simp only [List.map_toArray, List.map_nil]) (rmk0 _)) rfl
          · exact seqOk_op _ (by intro t hd _; cases hd; exact T79) rfl fun w' hc => by rw [show w' = w6 from hc]; exact sv (run_bdn rfl (by simp only [List.map_toArray, List.map_nil]) (rmk0 _)) rfl
          · exact seqOk_op _ (by intro t hd _; cases hd; exact T80) rfl fun w' hc => by rw [show w' = w6 from hc]; exact sv (run_sdn rfl (by simp only [List.map_toArray, List.map_cons, List.map_nil, E78, E79]) f0.out) rfl
          · exact seqOk_op _ (by intro t hd _; cases hd; exact T81) rfl fun w' hc => by rw [show w' = (w6.alloc (.cells (mk2 0 0) 65)) from hc]; exact sv (run_bdn rfl (by simp only [List.map_toArray, List.map_cons, List.map_nil, E80, eval_const]) (rbd11 gg _)) rfl
          · exact seqOk_op _ (by intro t hd _; cases hd; exact T82) rfl fun w' hc => by rw [show w' = (w6.alloc (.cells (mk2 0 0) 65)) from hc]; exact sv (run_bdn rfl (by simp only [List.map_toArray, List.map_cons, List.map_nil, eval_const]) (rmk8 _)) rfl
          · exact seqOk_op _ (by intro t hd _; cases hd; exact T83) rfl fun w' hc => by rw [show w' = (w6.alloc (.cells (mk2 0 0) 65)) from hc]; exact sv (run_sdn rfl (by simp only [List.map_toArray, List.map_cons, List.map_nil, E82]) f1.out) rfl
          · exact seqOk_op _ (by intro t hd _; cases hd; exact T84) rfl fun w' hc => by rw [show w' = ((w6.alloc (.cells (mk2 0 0) 65)).alloc (.cells (mk1 8) 65)) from hc]; exact sv (run_bdn rfl (by simp only [List.map_toArray, List.map_cons, List.map_nil, E83, eval_const]) (rbd12 gg _)) rfl
          · exact seqOk_op _ (by intro t hd _; cases hd; exact T85) rfl fun w' hc => by rw [show w' = ((w6.alloc (.cells (mk2 0 0) 65)).alloc (.cells (mk1 8) 65)) from hc]; exact sv (run_bdn rfl (by simp only [List.map_toArray, List.map_cons, List.map_nil, eval_const]) (rmk3 _)) rfl
          · exact seqOk_op _ (by intro t hd _; cases hd; exact T86) rfl fun w' hc => by rw [show w' = ((w6.alloc (.cells (mk2 0 0) 65)).alloc (.cells (mk1 8) 65)) from hc]; exact sv (run_bdn rfl (by simp only [List.map_toArray, List.map_cons, List.map_nil, eval_const]) (rmk2 _)) rfl
          · exact seqOk_op _ (by intro t hd _; cases hd; exact T87) rfl fun w' hc => by rw [show w' = ((w6.alloc (.cells (mk2 0 0) 65)).alloc (.cells (mk1 8) 65)) from hc]; exact sv (run_sdn rfl (by simp only [List.map_toArray, List.map_cons, List.map_nil, E85, E86]) f2.out) rfl
          · exact seqOk_op _ (by intro t hd _; cases hd; exact T88) rfl fun w' hc => by rw [show w' = (((w6.alloc (.cells (mk2 0 0) 65)).alloc (.cells (mk1 8) 65)).alloc (.cells (mk2 3 2) 65)) from hc]; exact sv (run_bdn rfl (by simp only [List.map_toArray, List.map_cons, List.map_nil, E87, eval_const]) (rbd13 gg _)) rfl
          · exact seqOk_op _ (by intro t hd _; cases hd; exact T89) rfl fun w' hc => by rw [show w' = (((w6.alloc (.cells (mk2 0 0) 65)).alloc (.cells (mk1 8) 65)).alloc (.cells (mk2 3 2) 65)) from hc]; exact sv (run_bdn rfl (by simp only [List.map_toArray, List.map_cons, List.map_nil, eval_const]) (rbd14 _)) rfl
          · exact seqOk_op _ (by intro t hd _; cases hd; exact T90) rfl fun w' hc => by rw [show w' = (((w6.alloc (.cells (mk2 0 0) 65)).alloc (.cells (mk1 8) 65)).alloc (.cells (mk2 3 2) 65)) from hc]; exact sv (run_bdn rfl (by simp only [List.map_toArray, List.map_cons, List.map_nil, eval_const]) (rout3 _)) rfl
          · exact seqOk_op _ (by intro t hd _; cases hd; exact T91) rfl fun w' hc => by rw [show w' = (((w6.alloc (.cells (mk2 0 0) 65)).alloc (.cells (mk1 8) 65)).alloc (.cells (mk2 3 2) 65)) from hc]; exact sv (run_bdn rfl (by simp only [List.map_toArray, List.map_cons, List.map_nil, E90, eval_const]) (rbd15 _)) rfl
          · exact seqOk_op _ (by intro t hd _; cases hd; exact T92) rfl fun w' hc => by rw [show w' = (((w6.alloc (.cells (mk2 0 0) 65)).alloc (.cells (mk1 8) 65)).alloc (.cells (mk2 3 2) 65)) from hc]; exact sv (run_bdn rfl (by simp only [List.map_toArray, List.map_cons, List.map_nil, eval_const]) (rout2 _)) rfl
          · exact seqOk_op _ (by intro t hd _; cases hd; exact T93) rfl fun w' hc => by rw [show w' = (((w6.alloc (.cells (mk2 0 0) 65)).alloc (.cells (mk1 8) 65)).alloc (.cells (mk2 3 2) 65)) from hc]; exact sv (run_bdn rfl (by simp only [List.map_toArray, List.map_cons, List.map_nil, E92, eval_const]) (rbd16 _)) rfl
          · exact seqOk_op _ (by intro t hd _; cases hd; exact T94) rfl fun w' hc => by rw [show w' = (((w6.alloc (.cells (mk2 0 0) 65)).alloc (.cells (mk1 8) 65)).alloc (.cells (mk2 3 2) 65)) from hc]; exact sv (run_bdn rfl (by simp only [List.map_toArray, List.map_cons, List.map_nil, eval_const]) (routp _)) rfl
          · exact seqOk_op _ (by intro t hd _; cases hd; exact T95) rfl fun w' hc => by rw [show w' = (((w6.alloc (.cells (mk2 0 0) 65)).alloc (.cells (mk1 8) 65)).alloc (.cells (mk2 3 2) 65)) from hc]; exact sv (run_bdn rfl (by simp only [List.map_toArray, List.map_cons, List.map_nil, E94, eval_const]) (rbd17 _)) rfl
          · exact seqOk_op _ (by intro t hd _; cases hd; exact T96) rfl fun w' hc => by rw [show w' = (((w6.alloc (.cells (mk2 0 0) 65)).alloc (.cells (mk1 8) 65)).alloc (.cells (mk2 3 2) 65)) from hc]; exact sv (run_bdn rfl (by simp only [List.map_toArray, List.map_cons, List.map_nil, eval_const]) (rout5 _)) rfl
          · exact seqOk_op _ (by intro t hd _; cases hd; exact T97) rfl fun w' hc => by rw [show w' = (((w6.alloc (.cells (mk2 0 0) 65)).alloc (.cells (mk1 8) 65)).alloc (.cells (mk2 3 2) 65)) from hc]; exact sv (run_bdn rfl (by simp only [List.map_toArray, List.map_cons, List.map_nil, E96, eval_const]) (rbd18 _)) rfl
          · exact seqOk_op _ (by intro t hd _; cases hd; exact T98) rfl fun w' hc => by rw [show w' = (((w6.alloc (.cells (mk2 0 0) 65)).alloc (.cells (mk1 8) 65)).alloc (.cells (mk2 3 2) 65)) from hc]; exact sv (run_bdn rfl (by simp only [List.map_toArray, List.map_cons, List.map_nil, eval_const]) (rbd19 _)) rfl
          · exact seqOk_op _ (by intro t hd _; cases hd; exact T99) rfl fun w' hc => by rw [show w' = (((w6.alloc (.cells (mk2 0 0) 65)).alloc (.cells (mk1 8) 65)).alloc (.cells (mk2 3 2) 65)) from hc]; exact sv (run_bdn rfl (by simp only [List.map_toArray, List.map_cons, List.map_nil, eval_const]) (rreq1 _)) rfl
          · exact seqOk_op _ (by intro t hd _; cases hd; exact T100) rfl fun w' hc => by rw [show w' = (((w6.alloc (.cells (mk2 0 0) 65)).alloc (.cells (mk1 8) 65)).alloc (.cells (mk2 3 2) 65)) from hc]; exact sv (run_bdn rfl (by simp only [List.map_toArray, List.map_cons, List.map_nil, E99, eval_const]) (rbd20 _)) rfl
          · exact seqOk_op _ (by intro t hd _; cases hd; exact T101) rfl fun w' hc => by rw [show w' = (((w6.alloc (.cells (mk2 0 0) 65)).alloc (.cells (mk1 8) 65)).alloc (.cells (mk2 3 2) 65)) from hc]; exact sv (run_bdn rfl (by simp only [List.map_toArray, List.map_cons, List.map_nil, eval_const]) (rreq1 _)) rfl
          · exact seqOk_op _ (by intro t hd _; cases hd; exact T102) rfl fun w' hc => by rw [show w' = (((w6.alloc (.cells (mk2 0 0) 65)).alloc (.cells (mk1 8) 65)).alloc (.cells (mk2 3 2) 65)) from hc]; exact sv (run_bdn rfl (by simp only [List.map_toArray, List.map_cons, List.map_nil, E101, eval_const]) (rbd21 _)) rfl
          · exact seqOk_op _ (by intro t hd _; cases hd; exact T103) rfl fun w' hc => by rw [show w' = (((w6.alloc (.cells (mk2 0 0) 65)).alloc (.cells (mk1 8) 65)).alloc (.cells (mk2 3 2) 65)) from hc]; exact sv (run_sdn rfl (by simp only [List.map_toArray, List.map_cons, List.map_nil, E67, E68, E69, E70, E71, E72, E73, E74, E75, E76, E77, E81, E84, E88, E89, E91, E93, E95, E97, E98, E100, E102]) f3.out) rfl
          · exact seqOk_op _ (by intro t hd _; cases hd; exact T9) rfl fun w' hc => by rw [show w' = ((((w6.alloc (.cells (mk2 0 0) 65)).alloc (.cells (mk1 8) 65)).alloc (.cells (mk2 3 2) 65)).alloc (.cells (rowOf ((bds gg).map mkC)) 42)) from hc]; exact sv (run_asg rfl E103) rfl
        · intro w' hc
          rw [show w' = ((((w6.alloc (.cells (mk2 0 0) 65)).alloc (.cells (mk1 8) 65)).alloc (.cells (mk2 3 2) 65)).alloc (.cells (rowOf ((bds gg).map mkC)) 42)) from hc]
          simp only [putAll, List.foldl_cons, List.foldl_nil, Act.put, List.setIfInBounds_toArray, List.set_cons_succ, List.set_cons_zero]
          go_upto_region 11 with fail
          refine wp_world' (fun wx => Blk wx g1 (rowOf (mys.map mkC)) 42 ∧ Blk wx gg (mk2 0 0) 65 ∧ Blk wx (gg + 1) (mk1 8) 65 ∧ Blk wx (gg + 2) (mk2 3 2) 65 ∧ Blk wx (gg + 3) (rowOf ((bds gg).map mkC)) 42 ∧ Below w.heap.size w wx)
            ⟨(((HR6.out.alloc _).alloc _).alloc _).alloc _, ((B0.out.alloc _).alloc _).alloc _, (B1.out.alloc _).alloc _, B2.out.alloc _, B3.out, b4.out⟩ ?_
          rintro w7 ⟨hR7, hA7, hB7, hC7, hD7, hb7⟩
          clear f0 f1 f2 f3 B0 B1 B2 B3 b4 HR6
          go_wp2_with fail
          go_loopw [10] (fun i wr => ∃ k : Nat, k ≤ 4 ∧ i = .int .i64 k ∧ Below w7.heap.size w7 wr) (fun i _ => 4 - (intOf i).toNat)
          case atStart => exact ⟨0, by omega, rfl, Below.refl _ _⟩
          case round =>
            obtain ⟨k, hk4, rfl, hbr⟩ := hrel
            by_cases hlt : k < 4
            · obtain ⟨m, hm⟩ : ∃ m, mys[k]? = some m := ⟨_, List.getElem?_eq_getElem (show k < mys.length from hlt)⟩
              obtain ⟨hgood, hdg, hms⟩ := may_good m (List.mem_of_getElem? hm)
              have hld := Lib.hid (fun wx (h : Below w7.heap.size w7 wx) => kn_two wx g1 k mys m hm (hR7.mod ((Mod.refl (fun _ => False) _).after h) (fun h => h)))
              have hen := encode_calls (mkC m) m wr (mkC_of m hdg) (nil_marks m _ hms) hgood.rg
              rw [hgood.encE] at hen
              have hz := enc_size hgood
              have hl := lenOf_le hgood.may
              obtain ⟨de, dr⟩ := dec_enc hgood
              have hdc := Lib.hid (fun wx => decode_calls (encS m) wx (by omega))
              unfold DecPost at hdc
              rw [de] at hdc
              have hsm := Lib.hid (fun (C : Array Value) (p : Option Addr) (wx : World) (hC : MsgOf C (decR (encS m) p)) (hA : MarksAt wx (decR (encS m) p)) => (by
                have h1 := same_calls C (mkC m) _ _ wx hC (mkC_of m hdg) hA.mks (nil_marks m wx hms).mks
                rwa [(alB_iff _ _).2 (dr p)] at h1 : Calls Try.prog 19 #[.agg C, .agg (mkC m)] wx fun e w' => e = .returned (.bool true) ∧ Below wx.heap.size wx w'))
              have Hen := Lib.hid hen
              clear hen hz hl de dr
              generalize encS m = S2 at *
              go_wp2_with (refine wpList_load_v rfl 42 _ rfl ⟨g1, k * 53, none⟩ rfl _ (hld.out _ hbr) ?_)
              refine Hen.out.mono ?_
              rintro e w8 ⟨rfl, hb8⟩
              replace hb8 := hbr.trans (hb8.mono hbr.size)
              clear Hen
              go_wp2_with fail
              refine (hdc.out _).mono ?_
              rintro e w9 ⟨D, pd, rfl, hb9, hD, hA, -⟩
              replace hb9 := hb8.trans (hb9.mono hb8.size)
              have hnew := Lib.hid (show zero53.size = D.size by rw [hD.size]; rfl)
              have hone := Lib.hid (msg_one hD)
              have hsz := Lib.hid (msg_size D hD.size)
              have HD := Lib.hid hD
              have HA := Lib.hid hA
              clear hD hA hb8 hdc
              go_upto_region 16 with (refine wpList_store_new rfl 42 _ _ rfl rfl rfl _ D _ rfl (by exact hnew.out) hone.out hsz.out ?_)
              refine wp_world' (fun wx => Below w7.heap.size w7 wx ∧ MarksAt wx (decR S2 pd) ∧ Blk wx w9.heap.size D 42) ⟨hb9.alloc hb9.size _, marks_below HA.out (kn_al _ _), Blk.new _ _ _⟩ ?_
              rintro w10 hw10
              generalize w9.heap.size = g4 at *
              have hl4 := Lib.hid (fun wx (h : Blk wx g4 D 42) => run_load_row' (P := Try.prog) wx g4 42 D 42 _ h Try.underlying42 rfl hsz.out)
              refine wp_region_puts [] [(123, .int .i64 0), (124, .bool false), (125, .bool false), (126, .int .i64 0), (127, .bool false), (128, .bool false), (129, .bool false), (130, .agg D), (131, .slice (some ⟨g1, 0, none⟩) 4 4), (132, .int .i64 k), (133, .pointer (some ⟨g1, k * 53, none⟩)), (134, .agg (mkC m)), (135, .bool true), (136, .bool false), (137, .bool false)] (fun _ wx => Below w7.heap.size w7 wx ∧ MarksAt wx (decR S2 pd) ∧ Blk wx g4 D 42) (by kernel_rfl) (by kernel_rfl) (by kernel_rfl) (by kernel_rfl) (by kernel_rfl) ⟨hw10.1.drew, ⟨hw10.2.1.nil, hw10.2.1.len, hw10.2.1.big, hw10.2.1.cells⟩, hw10.2.2.drew⟩ ?_ ?_
              · intro aF hAF
                have E12 : aF.eval (.tmp 12) = .int .i64 0 := by rw [← hAF]; kernel_rfl
                have E14 : aF.eval (.tmp 14) = .int .i64 0 := by rw [← hAF]; kernel_rfl
                have E13 : aF.eval (.tmp 13) = .pointer (some ⟨g4, 0, none⟩) := by rw [← hAF]; kernel_rfl
                have E8 : aF.eval (.tmp 8) = .slice (some ⟨g1, 0, none⟩) 4 4 := by rw [← hAF]; kernel_rfl
                have E10 : aF.eval (.tmp 10) = .int .i64 k := by rw [← hAF]; kernel_rfl
                have T123 : aF.tmps[123]? = some (.int .i64 0) := by rw [← hAF]; kernel_rfl
                have E123 : aF.eval (.tmp 123) = .int .i64 0 := by rw [← hAF]; kernel_rfl
                have T124 : aF.tmps[124]? = some (.bool false) := by rw [← hAF]; kernel_rfl
                have E124 : aF.eval (.tmp 124) = .bool false := by rw [← hAF]; kernel_rfl
                have T125 : aF.tmps[125]? = some (.bool false) := by rw [← hAF]; kernel_rfl
                have E125 : aF.eval (.tmp 125) = .bool false := by rw [← hAF]; kernel_rfl
                have T126 : aF.tmps[126]? = some (.int .i64 0) := by rw [← hAF]; kernel_rfl
                have E126 : aF.eval (.tmp 126) = .int .i64 0 := by rw [← hAF]; kernel_rfl
                have T127 : aF.tmps[127]? = some (.bool false) := by rw [← hAF]; kernel_rfl
                have E127 : aF.eval (.tmp 127) = .bool false := by rw [← hAF]; kernel_rfl
                have T128 : aF.tmps[128]? = some (.bool false) := by rw [← hAF]; kernel_rfl
                have E128 : aF.eval (.tmp 128) = .bool false := by rw [← hAF]; kernel_rfl
                have T129 : aF.tmps[129]? = some (.bool false) := by rw [← hAF]; kernel_rfl
                have E129 : aF.eval (.tmp 129) = .bool false := by rw [← hAF]; kernel_rfl
                have T130 : aF.tmps[130]? = some (.agg D) := by rw [← hAF]; kernel_rfl
                have E130 : aF.eval (.tmp 130) = .agg D := by rw [← hAF]; kernel_rfl
                have T131 : aF.tmps[131]? = some (.slice (some ⟨g1, 0, none⟩) 4 4) := by rw [← hAF]; kernel_rfl
                have E131 : aF.eval (.tmp 131) = .slice (some ⟨g1, 0, none⟩) 4 4 := by rw [← hAF]; kernel_rfl
                have T132 : aF.tmps[132]? = some (.int .i64 k) := by rw [← hAF]; kernel_rfl
                have E132 : aF.eval (.tmp 132) = .int .i64 k := by rw [← hAF]; kernel_rfl
                have T133 : aF.tmps[133]? = some (.pointer (some ⟨g1, k * 53, none⟩)) := by rw [← hAF]; kernel_rfl
                have E133 : aF.eval (.tmp 133) = .pointer (some ⟨g1, k * 53, none⟩) := by rw [← hAF]; kernel_rfl
                have T134 : aF.tmps[134]? = some (.agg (mkC m)) := by rw [← hAF]; kernel_rfl
                have E134 : aF.eval (.tmp 134) = .agg (mkC m) := by rw [← hAF]; kernel_rfl
                have T135 : aF.tmps[135]? = some (.bool true) := by rw [← hAF]; kernel_rfl
                have E135 : aF.eval (.tmp 135) = .bool true := by rw [← hAF]; kernel_rfl
                have T136 : aF.tmps[136]? = some (.bool false) := by rw [← hAF]; kernel_rfl
                have E136 : aF.eval (.tmp 136) = .bool false := by rw [← hAF]; kernel_rfl
                have T137 : aF.tmps[137]? = some (.bool false) := by rw [← hAF]; kernel_rfl
                have E137 : aF.eval (.tmp 137) = .bool false := by rw [← hAF]; kernel_rfl
                clear hAF
                refine ⟨?_, ?_, ?_, ?_, ?_, ?_, ?_, ?_, ?_, ?_, ?_, ?_, ?_, ?_, ?_, trivial⟩
                · exact opOk_quiet _ (by intro d hd _; cases hd; exact T123) rfl (by decide) fun _ w' hc => sv (run_mov rfl E12) hc
                · exact opOk_quiet _ (by intro d hd _; cases hd; exact T124) rfl (by decide) fun _ w' hc => sv (run_neq0 rfl E123 (fun _ => rfl)) hc
                · exact opOk_quiet _ (by intro d hd _; cases hd; exact T125) rfl (by decide) fun _ w' hc => sv (run_mov rfl E124) hc
                · exact opOk_quiet _ (by intro d hd _; cases hd; exact T126) (wanted_of rfl (by kernel_rfl) T125) (by decide) fun _ w' hc => sv (run_mov rfl E14) hc
                · exact opOk_quiet _ (by intro d hd _; cases hd; exact T127) (wanted_of rfl (by kernel_rfl) T125) (by decide) fun _ w' hc => sv (run_neq0 rfl E126 (fun _ => rfl)) hc
                · exact opOk_quiet _ (by intro d hd _; cases hd; exact T128) rfl (by decide) fun _ w' hc => sv (run_pick0 rfl E125 E127) hc
                · exact opOk_quiet _ (by intro d hd _; cases hd; exact T129) rfl (by decide) fun _ w' hc => sv (run_mov rfl E128) hc
                · exact opOk_quiet _ (by intro d hd _; cases hd; exact T130) (wanted_of rfl (by kernel_rfl) T129) (by decide) fun _ w' hc => sv (run_load1 rfl E13 (hl4.out _ hc.2.2)) hc
                · exact opOk_quiet _ (by intro d hd _; cases hd; exact T131) (wanted_of rfl (by kernel_rfl) T129) (by decide) fun _ w' hc => sv (run_mov rfl E8) hc
                · exact opOk_quiet _ (by intro d hd _; cases hd; exact T132) (wanted_of rfl (by kernel_rfl) T129) (by decide) fun _ w' hc => sv (run_mov rfl E10) hc
                · exact opOk_quiet _ (by intro d hd _; cases hd; exact T133) (wanted_of rfl (by kernel_rfl) T129) (by decide) fun _ w' hc => sv (run_ixM rfl E131 E132 hlt) hc
                · exact opOk_quiet _ (by intro d hd _; cases hd; exact T134) (wanted_of rfl (by kernel_rfl) T129) (by decide) fun _ w' hc => sv (run_load1 rfl E133 (hld.out _ hc.1)) hc
                · exact opOk_quiet _ (by intro d hd _; cases hd; exact T135) (wanted_of rfl (by kernel_rfl) T129) (by decide) fun _ w' hc => sc (run_callsame rfl E130 E134 rfl) ((hsm.out D pd w' HD.out hc.2.1).mono fun e w'' h => ⟨h.1, hc.1.trans (h.2.mono hc.1.size), marks_below hc.2.1 h.2, hc.2.2.mod ((Mod.refl (fun _ => False) _).after h.2) (fun h => h)⟩)
                · exact opOk_quiet _ (by intro d hd _; cases hd; exact T136) (wanted_of rfl (by kernel_rfl) T129) (by decide) fun _ w' hc => sv (run_not rfl E135) hc
                · exact opOk_quiet _ (by intro d hd _; cases hd; exact T137) rfl (by decide) fun _ w' hc => sv (run_pick0 rfl E129 E136) hc
              · intro w11 hc
                simp only [putAll, List.foldl_cons, List.foldl_nil, Act.put, List.setIfInBounds_toArray, List.set_cons_succ, List.set_cons_zero]
                go_wp2_with fail
                go_roundw
                case rel => exact ⟨k + 1, by omega, by go_num, hc.1⟩
                case measure => simp [intOf]; omega
            · obtain rfl : k = 4 := by omega
              have hb8 := Lib.hid (fun wx (h : Below w7.heap.size w7 wx) => hb7.trans (h.mono hb7.size))
              have hld := Lib.hid (fun wx (h : Below w7.heap.size w7 wx) j m (hm : (bds gg)[j]? = some m) => kn_two wx (gg + 3) j (bds gg) m hm (hD7.mod ((Mod.refl (fun _ => False) _).after h) (fun h => h)))
              have hmk := Lib.hid (fun wx (h : Below w7.heap.size w7 wx) => bds_marks (hA7.mod ((Mod.refl (fun _ => False) _).after h) (fun h => h)) (hB7.mod ((Mod.refl (fun _ => False) _).after h) (fun h => h)) (hC7.mod ((Mod.refl (fun _ => False) _).after h) (fun h => h)))
              clear hA7 hB7 hC7 hD7 hR7 hb7
              rw [show ((4 : Nat) : Int) = 4 from rfl]
              go_wp2_with fail
              go_loopw [15] (fun i wr => ∃ k : Nat, k ≤ 22 ∧ i = .int .i64 k ∧ Below w7.heap.size w7 wr) (fun i _ => 22 - (intOf i).toNat)
              case atStart => exact ⟨0, by omega, rfl, hbr⟩
              case round =>
                obtain ⟨j, hj, rfl, hbj⟩ := hrel
                by_cases hlt : j < 22
                · obtain ⟨m, hm⟩ : ∃ m, (bds gg)[j]? = some m := ⟨_, List.getElem?_eq_getElem (show j < (bds gg).length from hlt)⟩
                  obtain ⟨hno, hrg, hdg⟩ := bds_no gg m (List.mem_of_getElem? hm)
                  have hen := encode_calls (mkC m) m wr (mkC_of m hdg) (hmk.out wr hbj m (List.mem_of_getElem? hm)) hrg
                  have e1 : encE m = 15 := by unfold encE; rw [if_neg (by rw [hno]; decide)]
                  have e2 : encS m = ⟨#[]⟩ := by unfold encS; rw [if_neg (by rw [hno]; decide)]; rfl
                  rw [e1, e2] at hen
                  have Hen := Lib.hid hen
                  have hl := Lib.hid (hld.out wr hbj j m hm)
                  clear hen e1 e2
                  go_wp2_with (refine wpList_load_v rfl 42 _ rfl ⟨gg + 3, j * 53, none⟩ rfl _ hl.out ?_)
                  refine Hen.out.mono ?_
                  rintro e w8 ⟨rfl, hb9⟩
                  replace hb9 := hbj.trans (hb9.mono hbj.size)
                  go_wp2_with fail
                  go_roundw
                  case rel => exact ⟨j + 1, by omega, by go_num, hb9⟩
                  case measure => simp [intOf]; omega
                · obtain rfl : j = 22 := by omega
                  have hb9 := hb8.out _ hbj
                  have HW := Lib.hid works_calls
                  have q1 := Lib.hid (fun w => refused_calls ⟨#[]⟩ 14 w (by decide) (by decide) (by decide))
                  have q2 := Lib.hid (fun w => refused_calls ⟨#[4, 0, 18]⟩ 14 w (by decide) (by decide) (by decide))
                  have q3 := Lib.hid (fun w => refused_calls ⟨#[5, 0, 11, 0, 3, 1, 0, 0, 0, 0, 0, 0, 0, 0]⟩ 15 w (by decide) (by decide) (by decide))
                  have q4 := Lib.hid (fun w => refused_calls ⟨#[5, 0, 11, 16, 3, 0, 0, 0, 0, 0, 0, 0, 0, 0]⟩ 15 w (by decide) (by decide) (by decide))
                  have q5 := Lib.hid (fun w => refused_calls ⟨#[0, 0, 0]⟩ 15 w (by decide) (by decide) (by decide))
                  clear hb8 hld hmk hbj
                  go_wp2_with fail
                  refine (HW.out _).mono ?_
                  rintro e v1 ⟨rfl, k1⟩
                  replace k1 := hb9.trans (k1.mono hb9.size)
                  go_wp2_with fail
                  refine (q1.out _).mono ?_
                  rintro e v2 ⟨rfl, k2⟩
                  replace k2 := k1.trans (k2.mono k1.size)
                  go_wp2_with fail
                  refine (q2.out _).mono ?_
                  rintro e v3 ⟨rfl, k3⟩
                  replace k3 := k2.trans (k3.mono k2.size)
                  go_wp2_with fail
                  refine (q3.out _).mono ?_
                  rintro e v4 ⟨rfl, k4⟩
                  replace k4 := k3.trans (k4.mono k3.size)
                  go_wp2_with fail
                  refine (q4.out _).mono ?_
                  rintro e v5 ⟨rfl, k5⟩
                  replace k5 := k4.trans (k5.mono k4.size)
                  go_wp2_with fail
                  refine (q5.out _).mono ?_
                  rintro e v6 ⟨rfl, k6⟩
                  replace k6 := k5.trans (k6.mono k5.size)
                  go_wp2_with fail
                  go_ret
                  exact ⟨rfl, k6⟩
end Go.Proofs.Ytcipdimnbleljaa
