/-
  'MsgReads': it returns true.
-/
import Derived.Test.YtcipdimnbleljaaRfT
import Derived.Test.YtcipdimnbleljaaMsgLong
import Derived.Laws.IdiomStrings
namespace Go.Proofs.Ytcipdimnbleljaa
open Go.ChangeShapes Go.WideShapes Go.ChangeAt Go.RowKit
open Extern.Stop (cell)

/-- a block of the heap, one place behind its end marked ('[]byte(s)') -/
def BlkB (w : World) (g : Nat) (C : Array Value) (t : TypeId) (n : Nat) : Prop := w.heap[g]? = some (.cells C t (n, n + 1))
section
variable {w w' : World} {g n i : Nat} {C : Array Value} {t : TypeId}
theorem BlkB.lt (h : BlkB w g C t n) : g < w.heap.size := by
  rcases Nat.lt_or_ge g w.heap.size with k | k
  · exact k
  · unfold BlkB at h; rw [Array.getElem?_eq_none k] at h; cases h
theorem BlkB.cell {v : Value} (h : BlkB w g C t n) (hv : C[i]? = some v) : w.cell? ⟨g, i, none⟩ = some v := by
  unfold BlkB at h; simp [World.cell?, h, hv]
theorem BlkB.froz (h : BlkB w g C t n) (hi : i < n) : w.frozen? ⟨g, i, none⟩ = false := by
  unfold BlkB at h; simp [World.frozen?, h]; omega
theorem BlkB.set (h : BlkB w g C t n) (v : Value) : BlkB (w.setCell ⟨g, i, none⟩ v) g (C.setIfInBounds i v) t n := by
  unfold BlkB at h ⊢
  show (w.heap.modify g _)[g]? = _
  rw [Array.getElem?_modify]
  simp [h]
theorem BlkB.mod (h : BlkB w g C t n) {S : Nat → Prop} (hm : Mod S w w') (hs : ¬ S g) : BlkB w' g C t n := (hm.block g h.lt hs).trans h
theorem BlkB.new (w : World) (C : Array Value) (t : TypeId) (n : Nat) : BlkB (w.alloc (.cells C t (n, n + 1))) w.heap.size C t n := World.alloc_heap_new w _
end
theorem row_size (s : ByteArray) (cap : Nat) : s.size ≤ (bytesRow s cap).size := by
  unfold bytesRow
  rw [Array.size_append, Array.size_map]
  show s.data.size ≤ _
  omega
/-- a text's bytes, one of them another -/
def bentL (s : ByteArray) (k : Nat) (b : Int) : List Int := (s.data.toList.map fun x => (x.toNat : Int)).set k b
theorem bent_len (s : ByteArray) (k : Nat) (b : Int) : (bentL s k b).length = s.size := by
  unfold bentL
  rw [List.length_set, List.length_map]
  rfl
theorem bent_cvt {w : World} {g k n c cap : Nat} {s : ByteArray} {b : Int} {t : TypeId} (h : BlkB w g ((bytesRow s cap).setIfInBounds k (.int .u8 b)) t n) :
    (convert 26 9 (.slice (some ⟨g, 0, none⟩) s.size c)).run Try.prog w = .ok (.string (strOfNums (bentL s k b))) w := by
  refine run_convert_bytes_arg w 26 5 Try.underlying26 Try.underlying5 g 0 s.size c (bentL s k b) (bent_len s k b) (fun i hi => ?_) 9 Try.underlying9
  rw [Nat.zero_add]
  have hr := row_size s cap
  refine h.cell ?_
  unfold bentL
  by_cases e : i = k
  · subst e
    rw [set_eq (by omega)]
    simp [List.getD_eq_getElem?_getD, hi]
  · rw [set_ne (fun h => e h.symm), bytesRow_at s cap i hi]
    simp [List.getD_eq_getElem?_getD, List.getElem?_set_ne (Ne.symm e), Array.getElem?_eq_getElem (show i < s.data.size from hi)]
theorem wpList_cvt {P : Program} {ops : Array Oper} {rest : List Oper} {o : Oper} {a : Act} {w w' : World} {Q : Exit → Act → World → Prop} (hgd : Region.wanted o (yielded ops a.tmps) = true) (s t : TypeId) (x : Operand) (ho : o.op = .convert s t x)
    (v : Value) (hx : a.eval x = v) (u : Value) (hrun : (convert s t v).run P w = .ok u w') (h : wpList P ops Q rest (a.put o.dst u) w') : wpList P ops Q (o :: rest) a w :=
  wpList_step fun K hK => by
    rw [if_pos hgd]
    unfold Oper.wp execOp
    simp only [ho, hx, Sem.run_bind, hrun, Result.andThen_ok, Sem.run_pure]
    exact hK _ _ h
section
variable {ρ : Operand → Value} {o : Oper} {w : World} {x y : Operand}
theorem run_fldD {b : Nat} (ho : o.op = .fieldAddr 28 x 0) (hx : ρ x = .pointer (some ⟨b, 0, none⟩)) : (execOp ρ o).run Try.prog w = .ok (.value (.pointer (some ⟨b, 0, none⟩))) w :=
  run_fldT ho hx (fun w => by kernel_rfl)
theorem run_u8 {p : Addr} {n : Int} (hc : w.cell? p = some (.int .u8 n)) : (loadVar 5 p).run Try.prog w = .ok (.int .u8 n) w := by go_simp
theorem run_rem8 {n : Int} (hn : 0 ≤ n ∧ n < 256) (ho : o.op = .binOp .rem 5 x (.const (.int .u8 5)) 5) (hx : ρ x = .int .u8 n) (hc : ∀ v, ρ (.const v) = v) :
    (execOp ρ o).run Try.prog w = .ok (.value (.int .u8 (n % 5))) w := by
  have h1 : n.tmod 5 = n % 5 := Int.tmod_eq_emod_of_nonneg hn.1
  have h4 : IntKind.u8.wrap (n % 5) = n % 5 := IntWalk.u8_in _ (by omega)
  unfold execOp
  simp only [ho, hx, hc]
  go_simp
theorem run_conv8 {n : Int} (hn : 0 ≤ n ∧ n < 256) (ho : o.op = .convert 5 3 x) (hx : ρ x = .int .u8 n) :
    (execOp ρ o).run Try.prog w = .ok (.value (.int .i64 n)) w := by
  have h4 : wrap64 n = n := IntWalk.wrap64_in _ (by omega)
  have h5 : IntKind.i64.wrap n = n := IntWalk.i64_in _ (by omega)
  unfold execOp
  simp only [ho, hx]
  go_simp
theorem run_oneadd {n : Int} (hn : 0 ≤ n ∧ n < 256) (ho : o.op = .binOp .add 3 (.const (.int .i64 1)) x 3) (hx : ρ x = .int .i64 n) (hc : ∀ v, ρ (.const v) = v) :
    (execOp ρ o).run Try.prog w = .ok (.value (.int .i64 (1 + n))) w := by
  have s1 : IntKind.i64.wrap (1 + n) = 1 + n := IntWalk.i64_in _ (by omega)
  unfold execOp
  simp only [ho, hx, hc]
  go_simp
end
theorem body_any (d : DV) (p : Option Addr) (cap : Nat) : bodyS (msgD d p cap) = bodyS (msgD d none 0) := rfl
theorem frm_size (k : Int) (b : ByteArray) : (frmS k b).size = 3 + b.size := by
  unfold frmS
  rw [ByteArray.size_append, ByteArray.size_append, strOfNums_size, strOfNums_size, be_length, be_length]
theorem body_le {d : DV} (h : DraftRg d) : (bodyS (msgD d none 0)).size ≤ 266 := by
  have h1 := enc_le h
  have h2 := (enc_frm (good_draft h none 0)).1
  have h3 := congrArg ByteArray.size h2
  rw [frm_size] at h3
  omega
theorem ext_le {b : ByteArray} {k n : Nat} (h : b.size ≤ n) : (b.extract 0 k).size ≤ n := by rw [ByteArray.size_extract]; omega
theorem app_le {a b : ByteArray} {n : Nat} (h : a.size + b.size ≤ n) : (a ++ b).size ≤ n := by rw [ByteArray.size_append]; exact h
/-- the worlds of region 2 -/
structure ClM (C0 N3 : Array Value) (d : DV) (w : World) (x : Array Value × Option Addr × Nat) (s : Nat) (w' : World) : Prop where
  b0 : Blk w' w.heap.size C0 28
  b1 : Blk w' (w.heap.size + 1) N3 48
  low : Below w.heap.size w w'
  m0 : 0 < s → MsgOf x.1 (msgD d x.2.1 x.2.2)
  k0 : 0 < s → MarksAt w' (msgD d x.2.1 x.2.2)
section
variable {C0 N3 : Array Value} {d : DV} {w : World} {x : Array Value × Option Addr × Nat} {w' w'' : World} {M : Array Value} {p : Option Addr} {c s : Nat}
theorem ClM.one (h : ClM C0 N3 d w x 0 w') (hb : Below w'.heap.size w' w'') (hM : MsgOf M (msgD d p c)) (hA : MarksAt w'' (msgD d p c)) : ClM C0 N3 d w (M, p, c) 1 w'' :=
  have hm := (Mod.refl (fun _ => False) w').after hb
  ⟨h.b0.mod hm (fun h => h), h.b1.mod hm (fun h => h), h.low.trans (hb.mono h.low.size), fun _ => hM, fun _ => hA⟩
theorem ClM.below (h : ClM C0 N3 d w x s w') (hb : Below w'.heap.size w' w'') : ClM C0 N3 d w x s w'' :=
  have hm := (Mod.refl (fun _ => False) w').after hb
  ⟨h.b0.mod hm (fun h => h), h.b1.mod hm (fun h => h), h.low.trans (hb.mono h.low.size), h.m0, fun k => marks_below (h.k0 k) hb⟩
end

set_option maxHeartbeats 4000000 in
set_option maxRecDepth 100000 in
theorem MsgReads_walk (C0 : Array Value) (d0 : DV) (n0 n1 n2 : Int) (t : ByteArray) (w : World) (h0 : DraftOf C0 d0) (r0 : DraftRg d0) (a0 : BysAt w d0.p d0.bs)
    (b0 : 0 ≤ n0 ∧ n0 < 65536) (b1 : 0 ≤ n1 ∧ n1 < 65536) (b2 : 0 ≤ n2 ∧ n2 < 65536) (ht : t.size ≤ maxLen) :
    Calls Try.prog 4 #[.agg C0, .agg #[.int .u16 n0, .int .u16 n1, .int .u16 n2], .string t] w fun e w' => e = .returned (.bool true) ∧ Below w.heap.size w w' := by
  unfold maxLen at ht
  have HW := Lib.hid works_calls
  have HR := Lib.hid reads_calls
  have hs0 := h0.size
  have hkind := h0.h0
  have rk := r0.kind
  have hm0 := Lib.hid (fun wx (h : Below w.heap.size w wx) => draft_calls C0 d0 wx h0 r0 (a0.below h))
  have hbd := Lib.hid (fun (M : Array Value) (p : Option Addr) (c : Nat) (wx : World) (hM : MsgOf M (msgD d0 p c)) (hA : MarksAt wx (msgD d0 p c)) => body_calls M (msgD d0 p c) wx hM hA (good_draft r0 p c))
  have hbl := body_le r0
  have hi0 : (Try.prog.info? 28).map (·.size) = some C0.size := by rw [hs0]; kernel_rfl
  have hld0 := Lib.hid (fun wx (h : Blk wx w.heap.size C0 28) => run_load_row' (P := Try.prog) wx w.heap.size 28 C0 28 _ h Try.underlying28 rfl hi0)
  replace hi0 := Lib.hid hi0
  have hbd' := Lib.hid (fun (M : Array Value) (p : Option Addr) (c : Nat) (wx : World) (hM : MsgOf M (msgD d0 p c)) (hA : MarksAt wx (msgD d0 p c)) => (by
    have h := hbd.out M p c wx hM hA
    rwa [body_any] at h : Calls Try.prog 15 #[.agg M] wx fun e w' => e = .returned (.string (bodyS (msgD d0 none 0))) ∧ Below wx.heap.size wx w'))
  clear hbd
  generalize bodyS (msgD d0 none 0) = B at hbd' hbl
  obtain ⟨N3, hN3⟩ : ∃ N3 : Array Value, #[.int .u16 n0, .int .u16 n1, .int .u16 n2] = N3 := ⟨_, rfl⟩
  have g0 : N3[0]? = some (.int .u16 n0) := by rw [← hN3]; rfl
  have g1 : N3[1]? = some (.int .u16 n1) := by rw [← hN3]; rfl
  have g2 : N3[2]? = some (.int .u16 n2) := by rw [← hN3]; rfl
  rw [hN3]
  clear hN3 hs0 h0 a0
  go_enter Try.func4, Try.ntmps4
  go_upto_region 1 with fail
  refine wp_world' (fun wx => Blk wx w.heap.size C0 28 ∧ Blk wx (w.heap.size + 1) N3 48 ∧ Below w.heap.size w wx)
    ⟨(Blk.new w C0 _).alloc _, Blk.new' w _ _ _, ((Below.refl _ _).alloc (Nat.le_refl _) _).alloc (by simp) _⟩ ?_
  rintro w0 ⟨hB0, hB1, hb0⟩
  have HB0 := Lib.hid hB0
  have HB1 := Lib.hid hB1
  clear hB0 hB1
  go_upto_region 2 with fail
  have hRs : (t.extract 0 (if (1000 : Int) < (t.size : Int) then (1000 : Int) else (t.size : Int)).toNat).size ≤ 1000 := by
    rw [ByteArray.size_extract]
    split <;> omega
  generalize (if (1000 : Int) < (t.size : Int) then (1000 : Int) else (t.size : Int)) = mn at hRs ⊢
  generalize t.extract 0 mn.toNat = R at hRs ⊢
  clear ht
  have hkd : 0 ≤ d0.kind % 5 ∧ d0.kind % 5 < 5 := by omega
  generalize hkk : d0.kind % 5 = kd at hkd
  have hfr := Lib.hid (fun w => frame_ref (1 + kd) B w ⟨by omega, by omega⟩ (by omega))
  have hSs : (frmS (1 + kd) B).size ≤ 269 := by rw [frm_size]; omega
  have hSp : 0 < (frmS (1 + kd) B).size := by rw [frm_size]; omega
  generalize frmS (1 + kd) B = S at hfr hSs hSp
  refine wp_region_tell (X := Array Value × Option Addr × Nat) (#[], none, 0) [6] (fun x => [(16, .pointer (some ⟨w.heap.size, 0, none⟩)), (17, .int .u8 d0.kind), (18, .int .u8 kd), (19, .int .i64 kd), (20, .int .i64 (1 + kd)), (21, .agg C0), (23, .string B), (24, .string S), (7, .string S)] ++ [(22, .agg x.1)])
    (ClM C0 N3 d0 w) (by kernel_rfl) (by kernel_rfl) (by kernel_rfl) (by kernel_rfl) (by kernel_rfl) (fun x => by kernel_rfl) ⟨HB0.out.drew, HB1.out.drew, hb0.drew, (fun h => by omega), (fun h => by omega)⟩ ?_ ?_
  · intro aF hAF
    have E3 : ∀ x, (aF x).eval (.tmp 3) = .pointer (some ⟨w.heap.size, 0, none⟩) := by intro x; rw [hAF]; kernel_rfl
    have T16 : ∀ x, (aF x).tmps[16]? = some (.pointer (some ⟨w.heap.size, 0, none⟩)) := by intro x; rw [hAF]; kernel_rfl
    have E16 : ∀ x, (aF x).eval (.tmp 16) = .pointer (some ⟨w.heap.size, 0, none⟩) := by intro x; rw [hAF]; kernel_rfl
    have T17 : ∀ x, (aF x).tmps[17]? = some (.int .u8 d0.kind) := by intro x; rw [hAF]; kernel_rfl
    have E17 : ∀ x, (aF x).eval (.tmp 17) = .int .u8 d0.kind := by intro x; rw [hAF]; kernel_rfl
    have T18 : ∀ x, (aF x).tmps[18]? = some (.int .u8 kd) := by intro x; rw [hAF]; kernel_rfl
    have E18 : ∀ x, (aF x).eval (.tmp 18) = .int .u8 kd := by intro x; rw [hAF]; kernel_rfl
    have T19 : ∀ x, (aF x).tmps[19]? = some (.int .i64 kd) := by intro x; rw [hAF]; kernel_rfl
    have E19 : ∀ x, (aF x).eval (.tmp 19) = .int .i64 kd := by intro x; rw [hAF]; kernel_rfl
    have T20 : ∀ x, (aF x).tmps[20]? = some (.int .i64 (1 + kd)) := by intro x; rw [hAF]; kernel_rfl
    have E20 : ∀ x, (aF x).eval (.tmp 20) = .int .i64 (1 + kd) := by intro x; rw [hAF]; kernel_rfl
    have T21 : ∀ x, (aF x).tmps[21]? = some (.agg C0) := by intro x; rw [hAF]; kernel_rfl
    have E21 : ∀ x, (aF x).eval (.tmp 21) = .agg C0 := by intro x; rw [hAF]; kernel_rfl
    have T22 : ∀ x, (aF x).tmps[22]? = some (.agg x.1) := by intro x; rw [hAF]; kernel_rfl
    have E22 : ∀ x, (aF x).eval (.tmp 22) = .agg x.1 := by intro x; rw [hAF]; kernel_rfl
    have T23 : ∀ x, (aF x).tmps[23]? = some (.string B) := by intro x; rw [hAF]; kernel_rfl
    have E23 : ∀ x, (aF x).eval (.tmp 23) = .string B := by intro x; rw [hAF]; kernel_rfl
    have T24 : ∀ x, (aF x).tmps[24]? = some (.string S) := by intro x; rw [hAF]; kernel_rfl
    have E24 : ∀ x, (aF x).eval (.tmp 24) = .string S := by intro x; rw [hAF]; kernel_rfl
    have T7 : ∀ x, (aF x).tmps[7]? = some (.string S) := by intro x; rw [hAF]; kernel_rfl
    replace hAF := Lib.hid hAF
    refine ⟨?_, ?_, ?_, ?_, ?_, ?_, ?_, ?_, ?_, ?_, trivial⟩
    · exact opOk2_quiet _ (by intro x d hd _; cases hd; exact T16 x) (fun _ => rfl) (by decide) fun x s w' hc => sv (run_fldD rfl (E3 x)) hc
    · exact opOk2_quiet _ (by intro x d hd _; cases hd; exact T17 x) (fun _ => rfl) (by decide) fun x s w' hc => sv (run_load1 rfl (E16 x) (run_u8 (hc.b0.cell hkind))) hc
    · exact opOk2_quiet _ (by intro x d hd _; cases hd; exact T18 x) (fun _ => rfl) (by decide) fun x s w' hc => sv ((run_rem8 rk rfl (E17 x) (fun _ => rfl)).trans (by rw [hkk])) hc
    · exact opOk2_quiet _ (by intro x d hd _; cases hd; exact T19 x) (fun _ => rfl) (by decide) fun x s w' hc => sv (run_conv8 (by omega) rfl (E18 x)) hc
    · exact opOk2_quiet _ (by intro x d hd _; cases hd; exact T20 x) (fun _ => rfl) (by decide) fun x s w' hc => sv (run_oneadd (by omega) rfl (E19 x) (fun _ => rfl)) hc
    · exact opOk2_quiet _ (by intro x d hd _; cases hd; exact T21 x) (fun _ => rfl) (by decide) fun x s w' hc => sv (run_load1 rfl (E3 x) (hld0.out _ hc.b0)) hc
    · exact opOk2_chain 0 rfl rfl (by decide) fun x w' hc => by
        refine sk (run_msg rfl (E21 x) rfl) ((hm0.out w' hc.low).mono ?_)
        rintro e w'' ⟨M, p, c, rfl, hb, hM, hA, _⟩
        exact ⟨_, rfl, (M, p, c), (by rw [hAF.out]; exact agree_any (by kernel_rfl) (by kernel_rfl)), (by intro d hd _; cases hd; exact T22 _), hc.one hb hM hA⟩
    · exact opOk2_behind 0 _ (by intro x d hd _; cases hd; exact T23 x) (fun _ => rfl) (by decide) (by kernel_rfl) fun x s w' hs hc => sc (run_callbody rfl (E22 x) rfl) ((hbd'.out _ _ _ w' (hc.m0 hs) (hc.k0 hs)).mono fun e w'' h => ⟨h.1, hc.below h.2⟩)
    · exact opOk2_quiet _ (by intro x d hd _; cases hd; exact T24 x) (fun _ => rfl) (by decide) fun x s w' hc => sc (run_callfrm rfl (E20 x) (E23 x) rfl) ((hfr.out w').mono fun e w'' h => ⟨h.1, hc.below h.2⟩)
    · exact opOk2_quiet _ (by intro x d hd _; cases hd; exact T7 x) (fun _ => rfl) (by decide) fun x s w' hc => sv (run_asg rfl (E24 x)) hc
  · intro x w1 hc
    simp only [putAll, List.foldl_cons, List.foldl_nil, List.cons_append, List.nil_append, Act.put, List.setIfInBounds_toArray, List.set_cons_succ, List.set_cons_zero]
    obtain ⟨hB0, hB1, hb1, -, -⟩ := hc
    clear HB0 HB1 hb0
    have hcv := run_bytes_of_string (P := Try.prog) w1 9 26 5 S Try.underlying9 Try.underlying26 Try.underlying5
    obtain ⟨cp, hcp⟩ : ∃ cp, grownCap w1 S.size 0 5 = cp := ⟨_, rfl⟩
    rw [hcp] at hcv
    clear hcp
    have Hcv := Lib.hid hcv
    clear hcv
    go_upto_region 4 with (refine wpList_cvt rfl 9 26 _ rfl _ rfl _ Hcv.out ?_)
    refine wp_world' (fun wx => Blk wx w.heap.size C0 28 ∧ Blk wx (w.heap.size + 1) N3 48 ∧ BlkB wx w1.heap.size (bytesRow S cp) 5 (bytesRow S cp).size ∧ Below w.heap.size w wx)
      ⟨hB0.alloc _, hB1.alloc _, BlkB.new _ _ _ _, (hb1.alloc hb1.size _).drew⟩ ?_
    rintro w2 ⟨hB2, hN2, hS2, hb2⟩
    have hgl : w.heap.size + 1 < w1.heap.size := hB1.lt
    generalize w1.heap.size = g at *
    have q0 := hN2.cell g0
    have q1 := hN2.cell g1
    have hze : ((S.size : Int) == 0) = false := beq_eq_false_iff_ne.2 (by omega)
    have hz1 : (0 : Int) < S.size := by omega
    have htm : n0.tmod S.size = n0 % S.size := Int.tmod_eq_emod_of_nonneg b0.1
    have hk0 : 0 ≤ n0 % S.size := Int.emod_nonneg _ (by omega)
    have hk1 : n0 % S.size < S.size := Int.emod_lt_of_pos _ hz1
    obtain ⟨k, hk⟩ := Int.eq_ofNat_of_zero_le hk0
    rw [hk] at htm hk1
    clear hk hk0
    have hkn : k < S.size := by omega
    have s1 : wrap64 n0 = n0 := IntWalk.wrap64_in _ (by omega)
    have s2 : IntKind.i64.wrap n0 = n0 := IntWalk.i64_in _ (by omega)
    have s3 : IntKind.i64.wrap (k : Int) = k := IntWalk.i64_in _ (by omega)
    have s4 : wrap64 (k : Int) = k := IntWalk.wrap64_in _ (by omega)
    obtain ⟨b, hb⟩ : ∃ b : Int, IntKind.u8.wrap n1 = b := ⟨_, rfl⟩
    have cS := hS2.cell (bytesRow_at S cp k hkn)
    have fS := hS2.froz (Nat.lt_of_lt_of_le hkn (row_size S cp))
    have HB2 := Lib.hid hB2
    have HN2 := Lib.hid hN2
    have HS2 := Lib.hid hS2
    clear hB0 hB1 hB2 hN2 hS2 Hcv
    go_region
    go_upto_region 5 with fail
    refine wp_world' (fun wx => Blk wx w.heap.size C0 28 ∧ Blk wx (w.heap.size + 1) N3 48 ∧ BlkB wx g ((bytesRow S cp).setIfInBounds k (.int .u8 b)) 5 (bytesRow S cp).size ∧ Below w.heap.size w wx)
      ⟨HB2.out.other (by show w.heap.size ≠ g; omega) _, HN2.out.other (by show w.heap.size + 1 ≠ g; omega) _, HS2.out.set _, (hb2.setCell (by show w.heap.size ≤ g; omega) _).drew⟩ ?_
    rintro w3 ⟨hB3, hN3, hS3, hb3⟩
    have hK := Lib.hid (fun wx (h : Below w3.heap.size w3 wx) => hN3.mod ((Mod.refl (fun _ => False) _).after h) (fun h => h))
    have hCv := Lib.hid (fun wx (h : Below w3.heap.size w3 wx) => bent_cvt (c := cp) (hS3.mod ((Mod.refl (fun _ => False) _).after h) (fun h => h)))
    have hbz : (strOfNums (bentL S k b)).size ≤ 269 := by rw [strOfNums_size, bent_len]; exact hSs
    generalize strOfNums (bentL S k b) = T at hCv hbz
    have HB3 := Lib.hid hB3
    clear HB2 HN2 HS2 hB3 hN3 hS3 cS fS q0 q1 hb hze hz1 htm hk1 s1 s2 s3 s4 hkn
    go_wp2_with (refine wpList_load_v rfl 28 _ rfl ⟨w.heap.size, 0, none⟩ rfl _ (hld0.out _ HB3.out) ?_)
    refine (hm0.out _ hb3).mono ?_
    rintro e w4 ⟨M, p, c, rfl, hb4, hM, hA, _⟩
    have hbM := Lib.hid (hbd'.out M p c w4 hM hA)
    clear hM hA HB3 hm0 hld0 hbd'
    go_wp2_with fail
    refine hbM.out.mono ?_
    rintro e w5 ⟨rfl, hb5⟩
    replace hb5 := hb4.trans (hb5.mono hb4.size)
    clear hbM hb4
    have q2 := (hK.out _ hb5).cell g2
    have hze : ((B.size : Int) + 1 == 0) = false := beq_eq_false_iff_ne.2 (by omega)
    have htm : n2.tmod ((B.size : Int) + 1) = n2 % ((B.size : Int) + 1) := Int.tmod_eq_emod_of_nonneg b2.1
    have hk0 : 0 ≤ n2 % ((B.size : Int) + 1) := Int.emod_nonneg _ (by omega)
    have hk1 : n2 % ((B.size : Int) + 1) < (B.size : Int) + 1 := Int.emod_lt_of_pos _ (by omega)
    obtain ⟨kc, hkc⟩ := Int.eq_ofNat_of_zero_le hk0
    rw [hkc] at htm hk1
    clear hkc hk0
    have hkn : (kc : Int) ≤ B.size := by omega
    have s1 : wrap64 n2 = n2 := IntWalk.wrap64_in _ (by omega)
    have s2 : IntKind.i64.wrap n2 = n2 := IntWalk.i64_in _ (by omega)
    have s3 : IntKind.i64.wrap (kc : Int) = kc := IntWalk.i64_in _ (by omega)
    have s4 : wrap64 (kc : Int) = kc := IntWalk.wrap64_in _ (by omega)
    have s5 : IntKind.i64.wrap ((B.size : Int) + 1) = (B.size : Int) + 1 := IntWalk.i64_in _ (by omega)
    go_upto_region 7 with fail
    have hCs : (B.extract 0 kc).size ≤ 266 := ext_le hbl
    generalize B.extract 0 kc = Cu at hCs ⊢
    clear q2 hze htm hk1 hkn s3 s4 s5
    have hm0 : 0 ≤ n1 % 8 ∧ n1 % 8 < 8 := by omega
    have htm8 : n1.tmod 8 = n1 % 8 := Int.tmod_eq_emod_of_nonneg b1.1
    generalize n1 % 8 = m at hm0 htm8
    have t1 : IntKind.u16.wrap m = m := IntWalk.u16_in _ (by omega)
    have t2 : wrap64 m = m := IntWalk.wrap64_in _ (by omega)
    have t3 : IntKind.i64.wrap m = m := IntWalk.i64_in _ (by omega)
    have hF := Lib.hid (fun (X : ByteArray) (hX : X.size ≤ 2000) wx => frame_ref m X wx ⟨hm0.1, by omega⟩ (by omega))
    have hFs := Lib.hid (fun (X : ByteArray) (hX : X.size ≤ 2000) => (show (frmS m X).size ≤ 140737488351232 by rw [frm_size]; omega))
    go_wp2_with fail
    refine (HR.out S _ (by omega)).mono ?_
    rintro e w6 ⟨rfl, hb6⟩
    replace hb6 := hb5.trans (hb6.mono hb5.size)
    clear hb5
    go_wp2_with (refine wpList_cvt (by rfl) 26 9 _ rfl _ rfl _ (hCv.out _ hb6) ?_)
    refine (HR.out T _ (by omega)).mono ?_
    rintro e w7 ⟨rfl, hb7⟩
    replace hb7 := hb6.trans (hb7.mono hb6.size)
    clear hb6 hCv
    have q2 := (hK.out _ hb7).cell g2
    have hze : ((S.size : Int) + 1 == 0) = false := beq_eq_false_iff_ne.2 (by omega)
    have htm : n2.tmod ((S.size : Int) + 1) = n2 % ((S.size : Int) + 1) := Int.tmod_eq_emod_of_nonneg b2.1
    have hk0 : 0 ≤ n2 % ((S.size : Int) + 1) := Int.emod_nonneg _ (by omega)
    have hk1 : n2 % ((S.size : Int) + 1) < (S.size : Int) + 1 := Int.emod_lt_of_pos _ (by omega)
    obtain ⟨ks, hks⟩ := Int.eq_ofNat_of_zero_le hk0
    rw [hks] at htm hk1
    clear hks hk0
    have hkn : (ks : Int) ≤ S.size := by omega
    have s3 : IntKind.i64.wrap (ks : Int) = ks := IntWalk.i64_in _ (by omega)
    have s4 : wrap64 (ks : Int) = ks := IntWalk.wrap64_in _ (by omega)
    have s5 : IntKind.i64.wrap ((S.size : Int) + 1) = (S.size : Int) + 1 := IntWalk.i64_in _ (by omega)
    go_wp2_with fail
    refine (HR.out (S.extract 0 ks) _ (ext_le (by omega))).mono ?_
    rintro e w8 ⟨rfl, hb8⟩
    replace hb8 := hb7.trans (hb8.mono hb7.size)
    clear hb7 q2 hze htm hk1 hkn s3 s4 s5
    go_wp2_with fail
    refine (HR.out (S ++ R) _ (app_le (by omega))).mono ?_
    rintro e w9 ⟨rfl, hb9⟩
    replace hb9 := hb8.trans (hb9.mono hb8.size)
    clear hb8
    have q3 := (hK.out _ hb9).cell g1
    go_wp2_with fail
    refine (hF.out Cu (by omega) _).mono ?_
    rintro e wa ⟨rfl, hba⟩
    replace hba := hb9.trans (hba.mono hb9.size)
    clear hb9 q3
    go_wp2_with fail
    refine (HR.out (frmS m Cu) _ (hFs.out Cu (by omega))).mono ?_
    rintro e wb ⟨rfl, hbb⟩
    replace hbb := hba.trans (hbb.mono hba.size)
    clear hba
    have q4 := (hK.out _ hbb).cell g1
    have hBR : (B ++ R).size ≤ 2000 := app_le (by omega)
    go_wp2_with fail
    refine (hF.out (B ++ R) hBR _).mono ?_
    rintro e wc ⟨rfl, hbc⟩
    replace hbc := hbb.trans (hbc.mono hbb.size)
    clear hbb q4
    go_wp2_with fail
    refine (HR.out (frmS m (B ++ R)) _ (hFs.out _ hBR)).mono ?_
    rintro e wd ⟨rfl, hbd⟩
    replace hbd := hbc.trans (hbd.mono hbc.size)
    clear hbc
    have q5 := (hK.out _ hbd).cell g1
    go_wp2_with fail
    refine (hF.out R (by omega) _).mono ?_
    rintro e we ⟨rfl, hbe⟩
    replace hbe := hbd.trans (hbe.mono hbd.size)
    clear hbd q5
    go_wp2_with fail
    refine (HR.out (frmS m R) _ (hFs.out _ (by omega))).mono ?_
    rintro e wf ⟨rfl, hbf⟩
    replace hbf := hbe.trans (hbf.mono hbe.size)
    clear hbe
    go_wp2_with fail
    refine (HR.out R _ (by omega)).mono ?_
    rintro e wg ⟨rfl, hbg⟩
    replace hbg := hbf.trans (hbg.mono hbf.size)
    clear hbf
    go_wp2_with fail
    refine (HW.out _).mono ?_
    rintro e wh ⟨rfl, hbh⟩
    have hbi := hb3.trans ((hbg.trans (hbh.mono hbg.size)).mono hb3.size)
    go_wp2_with fail
    go_ret
    exact ⟨rfl, hbi⟩
theorem okWide_row {P : Program} {w : World} {r : Reach} {base : Nat} {t : TypeId} {v : Value} {n : Nat} {e : TypeId} (ht : P.underlying t = some (.array n e)) (h : Value.okWide P w r base t v) : ∃ cs, v = .agg cs ∧ cs.size = P.cellsOf t := by
  simp only [Value.okWide, ht] at h
  obtain ⟨cs, h1, h2, _⟩ := h
  exact ⟨cs, h1, h2⟩
set_option maxRecDepth 100000 in
theorem open_three {H : Type} {enc : TypeId × Value → H} {W : World} {base : Nat} {v : Value} {d : DataW H} {p : List MemPlace}
    (hv : Value.okWide Try.prog W .any base 48 v) (h : DataW.Trod enc Try.prog W 0 (fun _ => true) true 48 v d p) :
    ∃ n0 n1 n2 : Int, v = .agg #[.int .u16 n0, .int .u16 n1, .int .u16 n2] ∧ (0 ≤ n0 ∧ n0 < 65536) ∧ (0 ≤ n1 ∧ n1 < 65536) ∧ (0 ≤ n2 ∧ n2 < 65536) := by
  obtain ⟨C, rfl, hsz0⟩ := okWide_row Try.underlying48 hv
  have c2 : Try.prog.cellsOf 48 = 3 := by kernel_rfl
  have c3 : Try.prog.cellsOf 22 = 1 := by kernel_rfl
  have hsz : C.size = 3 := by rw [← c2]; exact hsz0
  obtain ⟨fuel, hf⟩ := h
  obtain ⟨N, hN⟩ := open_ints Try.underlying48 Try.underlying22 c3 hf
  have g : ∀ i, i < 3 → C[i]? = some (.int .u16 (N i)) := fun i hi => by
    have h' : C.toList[i]? = some (.int .u16 (N i)) := (hN i hi).1
    rwa [Array.getElem?_toList] at h'
  refine ⟨N 0, N 1, N 2, ?_, u16_of (hN 0 (by omega)).2, u16_of (hN 1 (by omega)).2, u16_of (hN 2 (by omega)).2⟩
  congr 1
  apply Array.ext_getElem?
  intro i
  match i with
  | 0 => rw [g 0 (by omega)]; rfl
  | 1 => rw [g 1 (by omega)]; rfl
  | 2 => rw [g 2 (by omega)]; rfl
  | i + 3 => rw [Array.getElem?_eq_none (by omega), Array.getElem?_eq_none (by show 3 ≤ _; omega)]
set_option maxRecDepth 100000 in
theorem MsgReads_calls {H : Type} {enc : TypeId × Value → H} {W : World} {base : Nat} {v0 v1 : Value} {x0 x1 : DataW H} {p0 p1 : List MemPlace}
    (hv0 : Value.okWide Try.prog W .any base 28 v0) (t0 : DataW.Trod enc Try.prog W 0 (fun _ => true) true 28 v0 x0 p0)
    (hv1 : Value.okWide Try.prog W .any base 48 v1) (t1 : DataW.Trod enc Try.prog W 0 (fun _ => true) true 48 v1 x1 p1)
    (s : ByteArray) (hs : s.size ≤ maxLen) :
    Calls Try.prog 4 #[v0, v1, .string s] W fun e w' => e = .returned (.bool true) ∧ Below W.heap.size W w' := by
  obtain ⟨C0, d0, rfl, h0, r0, a0⟩ := open_draft hv0 t0
  obtain ⟨n0, n1, n2, rfl, b0, b1, b2⟩ := open_three hv1 t1
  exact MsgReads_walk C0 d0 n0 n1 n2 s W h0 r0 a0 b0 b1 b2 hs
end Go.Proofs.Ytcipdimnbleljaa
