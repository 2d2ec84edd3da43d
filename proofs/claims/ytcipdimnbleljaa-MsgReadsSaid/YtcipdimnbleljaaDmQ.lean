/-
  The document's side of layer 18: place, and a draft's digest.
  The document's side of layer 18: a draft's message, as a plain value.
  The document's side of layer 18: a draft's message: single operations.
-/
import Derived.Test.YtcipdimnbleljaaMay0
import Derived.Test.YtcipdimnbleljaaTell
import Derived.Stop.BytesEq
import Derived.IntWalk
import Derived.StillTailTactics
import Derived.Deep.CutRange
import Derived.Test.YtcipdimnbleljaaDe
import Derived.BigRegion
namespace Go.Proofs.Ytcipdimnbleljaa
open Go.RowKit
open Extern.Stop (cell)

/-- a draft of a message, by its numbers; its bytes lie at p -/
structure DV where
  kind : Int
  n : Nat → Int
  big : Nat → Int
  bs : List UInt8
  cap : Nat
  p : Option Addr
structure DraftOf (C : Array Value) (d : DV) : Prop where
  size : C.size = 12
  h0 : C[0]? = some (.int .u8 d.kind)
  h1 : ∀ i, i < 8 → C[1 + i]? = some (.int .u16 (d.n i))
  h9 : ∀ i, i < 2 → C[9 + i]? = some (.int .u64 (d.big i))
  h11 : C[11]? = some (.slice d.p d.bs.length d.cap)
structure DraftRg (d : DV) : Prop where
  kind : 0 ≤ d.kind ∧ d.kind < 256
  n : ∀ i, i < 8 → 0 ≤ d.n i ∧ d.n i < 65536
  big : ∀ i, i < 2 → 0 ≤ d.big i ∧ d.big i < 18446744073709551616
/-- bytes that lie in a world -/
structure BysAt (w : World) (p : Option Addr) (bs : List UInt8) : Prop where
  nil : p = none → bs = []
  big : bs.length ≤ 9223372036854775807
  cells : ∀ a, p = some a → ∀ j, j < bs.length → w.cell? (a.add j) = some (cell (bs.getD j 0))
theorem BysAt.below {w w' : World} {p : Option Addr} {bs : List UInt8} (h : BysAt w p bs) (hb : Below w.heap.size w w') : BysAt w' p bs :=
  ⟨h.nil, h.big, fun a ha j hj => (hb.cell (p := a.add j) (World.block_lt_of_cell? w (a.add j) (h.cells a ha j hj))).trans (h.cells a ha j hj)⟩

theorem place_ref (x : Int) (w : World) (h : 0 ≤ x ∧ x < 65536) :
    Calls Try.prog 21 #[.int .u16 x] w fun e w' => e = .returned (.agg #[.int .i64 (x % 1024), .int .i64 (x / 64)]) ∧ Below w.heap.size w w' := by
  have hb := (Below.refl w.heap.size w).alloc (Nat.le_refl _) (.cells #[.int .i64 0, .int .i64 0] 31)
  have h1 := h.1
  have h2 := h.2
  have e1 : x.tdiv 64 = x / 64 := Int.tdiv_eq_ediv_of_nonneg h1
  have e2 : IntKind.u16.wrap (x / 64) = x / 64 := IntWalk.u16_in _ (by omega)
  have e3 : wrap64 (x / 64) = x / 64 := IntWalk.wrap64_in _ (by omega)
  go_enter Try.func21, Try.ntmps21
  go_wp2_with fail
  exact bodyPost_ret (results_cell_row rfl _ _ w.heap.size _ _ _ _ rfl (Blk.new w _ _) Try.underlying31 rfl (by kernel_rfl)) rfl ⟨rfl, (Below.refl _ _).alloc (Nat.le_refl _) _⟩

theorem wp_world' {P : Program} {c : Code} {Q : Exit → Act → World → Prop} {a : Act} {W : World} (R : World → Prop) (h : R W) (k : ∀ wx, R wx → c.wp P Q a wx) : c.wp P Q a W := k W h
theorem blk_new3 (w : World) (a b : Obj) (C : Array Value) (t : TypeId) : Blk (((w.alloc a).alloc b).alloc (.cells C t)) (w.heap.size + 2) C t := by
  have h := Blk.new ((w.alloc a).alloc b) C t
  simpa using h
/-- a byte of a draft's digest -/
def dgB (bs : List UInt8) (frm : Nat) (i : Nat) : Int := (((bs.getD ((frm + i) % bs.length) 0).toNat : Int) + frm) % 256
def dgL (bs : List UInt8) (frm : Nat) (k : Nat) : Array Value := ((List.range 32).map fun i => if i < k ∧ bs ≠ [] then Value.int .u8 (dgB bs frm i) else .int .u8 0).toArray
theorem dgL_size (bs : List UInt8) (frm k : Nat) : (dgL bs frm k).size = 32 := by simp [dgL]
theorem dgL_zero (bs : List UInt8) (frm : Nat) : dgL bs frm 0 = #[.int .u8 0, .int .u8 0, .int .u8 0, .int .u8 0, .int .u8 0, .int .u8 0, .int .u8 0, .int .u8 0, .int .u8 0, .int .u8 0, .int .u8 0, .int .u8 0, .int .u8 0, .int .u8 0, .int .u8 0, .int .u8 0, .int .u8 0, .int .u8 0, .int .u8 0, .int .u8 0, .int .u8 0, .int .u8 0, .int .u8 0, .int .u8 0, .int .u8 0, .int .u8 0, .int .u8 0, .int .u8 0, .int .u8 0, .int .u8 0, .int .u8 0, .int .u8 0] := by
  unfold dgL
  rw [show (fun i => if i < 0 ∧ bs ≠ [] then Value.int .u8 (dgB bs frm i) else .int .u8 0) = fun _ => Value.int .u8 0 from funext fun i => if_neg (by omega)]
  rfl
theorem dgL_nil (frm k : Nat) : dgL [] frm k = #[.int .u8 0, .int .u8 0, .int .u8 0, .int .u8 0, .int .u8 0, .int .u8 0, .int .u8 0, .int .u8 0, .int .u8 0, .int .u8 0, .int .u8 0, .int .u8 0, .int .u8 0, .int .u8 0, .int .u8 0, .int .u8 0, .int .u8 0, .int .u8 0, .int .u8 0, .int .u8 0, .int .u8 0, .int .u8 0, .int .u8 0, .int .u8 0, .int .u8 0, .int .u8 0, .int .u8 0, .int .u8 0, .int .u8 0, .int .u8 0, .int .u8 0, .int .u8 0] := by
  unfold dgL
  rw [show (fun i => if i < k ∧ ([] : List UInt8) ≠ [] then Value.int .u8 (dgB [] frm i) else .int .u8 0) = fun _ => Value.int .u8 0 from funext fun i => if_neg (by simp)]
  rfl
theorem dgL_succ (bs : List UInt8) (frm k : Nat) (hk : k < 32) (hb : bs ≠ []) : dgL bs frm (k + 1) = (dgL bs frm k).setIfInBounds k (.int .u8 (dgB bs frm k)) := by
  apply Array.ext_getElem?
  intro i
  rw [Array.getElem?_setIfInBounds]
  unfold dgL
  simp only [List.getElem?_toArray, List.getElem?_map]
  by_cases hi : i < 32
  · rw [List.getElem?_range hi]
    by_cases e : k = i
    · subst e
      simp [hb, hk]
    · simp only [Option.map_some, if_neg e]
      by_cases hlt : i < k
      · rw [if_pos ⟨by omega, hb⟩, if_pos ⟨hlt, hb⟩]
      · rw [if_neg (by omega), if_neg (by omega)]
  · rw [if_neg (by omega), List.getElem?_eq_none (by simp; omega)]
    rfl

theorem dgL_one (bs : List UInt8) (frm k : Nat) : ∀ v ∈ (dgL bs frm k).toList, v.oneCell' = true := by
  intro v hv
  simp only [dgL, List.mem_map] at hv
  obtain ⟨i, _, rfl⟩ := hv
  split <;> rfl
section
variable {P : Program}
theorem run_storeVar_row2 (w : World) (g : Nat) (ty : TypeId) (C cs : Array Value) (t : TypeId) (hB : Blk w g C t) (hs : C.size = cs.size) (h1 : ∀ v ∈ cs.toList, v.oneCell' = true) (hi : (P.info? ty).map (·.size) = some cs.size) :
    (storeVar ty ⟨g, 0, none⟩ (.agg cs)).run P w = .ok () (w.setRow g cs) := by
  rw [run_storeVar_part (P := P) w g 0 ty C cs t hB (by omega) h1 hi]
  have : C.toList.drop (0 + cs.size) = [] := List.drop_eq_nil_of_le (by simp; omega)
  rw [this]
  simp
theorem wpList_store_row2 {ops : Array Oper} {rest : List Oper} {o : Oper} {a : Act} {w : World} {Q : Exit → Act → World → Prop} (hgd : o.guard = none) (ty : TypeId) (x y : Operand) (ho : o.op = .store ty x y) (hdst : o.dst = none)
    (g : Nat) (hx : a.eval x = .pointer (some ⟨g, 0, none⟩)) (C cs : Array Value) (t : TypeId) (hB : Blk w g C t) (hy : a.eval y = .agg cs) (hs : C.size = cs.size) (h1 : ∀ v ∈ cs.toList, v.oneCell' = true)
    (hi : (P.info? ty).map (·.size) = some cs.size)
    (h : ∀ w', Blk w' g cs t → Mod (· = g) w w' → wpList P ops Q rest a w') : wpList P ops Q (o :: rest) a w :=
  wpList_plain hgd fun K_ hK => by
    unfold Oper.wp execOp
    simp only [ho, hx, hy, Instr.storeAt, Instr.sureAddr, Sem.run_bind, Sem.run_pure, Result.andThen_ok, run_storeVar_row2 w g ty C cs t hB hs h1 hi]
    show K_ (a.put o.dst undef) _
    rw [hdst]
    exact hK _ _ (h _ (setRow_heap w g C cs t (0, 0) hB) ⟨rfl, rfl, rfl, by simp [World.setRow], fun k _ hk => setRow_other w g k cs hk⟩)
end
set_option maxHeartbeats 2000000 in
set_option maxRecDepth 100000 in
theorem dgst_calls (C : Array Value) (d : DV) (frm : Nat) (w : World) (hC : DraftOf C d) (hA : BysAt w d.p d.bs) (hf : frm < 8) :
    Calls Try.prog 22 #[.agg C, .int .i64 frm] w fun e w' => e = .returned (.agg (dgL d.bs frm 32)) ∧ Below w.heap.size w w' := by
  have hbig := hA.big
  have hb0 := (Below.refl w.heap.size w).alloc (Nat.le_refl _) (.cells C 28)
  have HA := Lib.hid hA
  have hC11 := hC.h11
  have hc0 := hC.size
  clear hA hC
  go_enter Try.func22, Try.ntmps22
  go_upto_region 2 with fail
  refine wp_world' (fun wx => Blk wx w.heap.size C 28 ∧ Blk wx (w.heap.size + 1) #[.int .u8 0, .int .u8 0, .int .u8 0, .int .u8 0, .int .u8 0, .int .u8 0, .int .u8 0, .int .u8 0, .int .u8 0, .int .u8 0, .int .u8 0, .int .u8 0, .int .u8 0, .int .u8 0, .int .u8 0, .int .u8 0, .int .u8 0, .int .u8 0, .int .u8 0, .int .u8 0, .int .u8 0, .int .u8 0, .int .u8 0, .int .u8 0, .int .u8 0, .int .u8 0, .int .u8 0, .int .u8 0, .int .u8 0, .int .u8 0, .int .u8 0, .int .u8 0] 37 ∧ Blk wx (w.heap.size + 2) (dgL d.bs frm 0) 37 ∧ Below w.heap.size w wx)
    ⟨((Blk.new w C _).alloc _).alloc _, (Blk.new' w _ _ _).alloc _, by rw [dgL_zero]; exact blk_new3 w _ _ _ _, ((hb0.alloc (by simp) _).alloc (by simp; omega) _)⟩ ?_
  rintro w0 ⟨hB, hZ, hO, hb⟩
  go_wp2_with fail
  go_loopw [6] (fun i wr => ∃ k : Nat, k ≤ 32 ∧ i = .int .i64 k ∧ (d.bs ≠ [] ∨ k = 0) ∧ Blk wr w.heap.size C 28 ∧ Blk wr (w.heap.size + 1) #[.int .u8 0, .int .u8 0, .int .u8 0, .int .u8 0, .int .u8 0, .int .u8 0, .int .u8 0, .int .u8 0, .int .u8 0, .int .u8 0, .int .u8 0, .int .u8 0, .int .u8 0, .int .u8 0, .int .u8 0, .int .u8 0, .int .u8 0, .int .u8 0, .int .u8 0, .int .u8 0, .int .u8 0, .int .u8 0, .int .u8 0, .int .u8 0, .int .u8 0, .int .u8 0, .int .u8 0, .int .u8 0, .int .u8 0, .int .u8 0, .int .u8 0, .int .u8 0] 37 ∧ Blk wr (w.heap.size + 2) (dgL d.bs frm k) 37 ∧ Below w.heap.size w wr) (fun i _ => 32 - (intOf i).toNat)
  case atStart => exact ⟨0, by omega, rfl, .inr rfl, hB, hZ, hO, hb⟩
  case round =>
    clear hB hZ hO hb
    obtain ⟨k, hk, rfl, hne, hB, hZ, hO, hb⟩ := hrel
    have k11 := hB.cell hC11
    by_cases hlt : k < 32
    · by_cases hbs : d.bs = []
      · obtain rfl : k = 0 := by rcases hne with h | h; exact absurd hbs h; exact h
        have hl : d.bs.length = 0 := by rw [hbs]; rfl
        rw [hl] at k11
        have hO' := Lib.hid hO
        have hZ' := Lib.hid hZ
        have e0 : dgL d.bs frm 0 = dgL d.bs frm 32 := by rw [hbs, dgL_nil, dgL_nil]
        have hld := Lib.hid (run_loadVar_row (P := Try.prog) _ _ _ 37 _ _ _ hO Try.underlying37 rfl (by rw [dgL_size]; kernel_rfl))
        have hs1 := Lib.hid (show (#[.int .u8 0, .int .u8 0, .int .u8 0, .int .u8 0, .int .u8 0, .int .u8 0, .int .u8 0, .int .u8 0, .int .u8 0, .int .u8 0, .int .u8 0, .int .u8 0, .int .u8 0, .int .u8 0, .int .u8 0, .int .u8 0, .int .u8 0, .int .u8 0, .int .u8 0, .int .u8 0, .int .u8 0, .int .u8 0, .int .u8 0, .int .u8 0, .int .u8 0, .int .u8 0, .int .u8 0, .int .u8 0, .int .u8 0, .int .u8 0, .int .u8 0, .int .u8 0] : Array Value).size = (dgL d.bs frm 0).size by rw [dgL_size]; rfl)
        have hone : Hid (∀ v ∈ (dgL d.bs frm 0).toList, v.oneCell' = true) := Lib.hid (dgL_one _ _ _)
        have hsz := Lib.hid (show (Try.prog.info? 37).map (·.size) = some (dgL d.bs frm 0).size by rw [dgL_size]; kernel_rfl)
        obtain ⟨R, HR⟩ : ∃ R, dgL d.bs frm 0 = R := ⟨_, rfl⟩
        rw [HR] at hO' hld hs1 hone hsz e0
        have HE := Lib.hid e0
        clear hO hZ hne hbs e0 HR hl
        go_wp2_with (first | (refine wpList_load_v rfl 37 _ rfl ⟨w.heap.size + 2, 0, none⟩ rfl _ hld.out ?_) | (refine wpList_store_row2 rfl 37 _ _ rfl rfl (w.heap.size + 1) rfl _ R 37 hZ'.out rfl (by exact hs1.out) hone.out hsz.out ?_; intro wz hBz hmz))
        (try simp only [Exit.inBlock, Exit.then])
        exact bodyPost_ret (results_cell_row rfl _ _ (w.heap.size + 1) _ _ _ _ rfl hBz Try.underlying37 rfl (by rw [← hs1.out]; kernel_rfl)) rfl ⟨by rw [HE.out], hb.trans (hmz.below hb.size (fun _ h => by rw [h]; omega))⟩
      · have hL : 0 < d.bs.length := List.length_pos_iff.2 hbs
        obtain ⟨a, ha⟩ : ∃ a, d.p = some a := by
          cases hp : d.p with
          | some a => exact ⟨a, rfl⟩
          | none => exact absurd (HA.out.nil hp) hbs
        have hJ : (frm + k) % d.bs.length < d.bs.length := Nat.mod_lt _ hL
        have kJ := (HA.out.below hb).cells a ha _ hJ
        have hs5 := dgL_succ d.bs frm k hlt hbs
        have kO : wr.cell? ⟨w.heap.size + 1 + 1, k, none⟩ = some (.int .u8 0) := hO.cell (by
          simp [dgL, hlt])
        have fO : wr.frozen? ⟨w.heap.size + 1 + 1, k, none⟩ = false := hO.froz k
        have s4 : IntKind.u8.wrap (((d.bs.getD ((frm + k) % d.bs.length) 0).toNat : Int) + frm) = dgB d.bs frm k := by
          unfold dgB; rw [IntKind.wrap_u8]
        have s2 : ((frm : Int) + (k : Int)).tmod (d.bs.length : Int) = (((frm + k) % d.bs.length : Nat) : Int) := by
          rw [Int.tmod_eq_emod_of_nonneg (by omega), ← Int.natCast_add]; rfl
        have s6 : ((frm : Int) + (k : Int)) % (d.bs.length : Int) = (((frm + k) % d.bs.length : Nat) : Int) := by rw [← Int.natCast_add]; rfl
        have s1 : IntKind.i64.wrap ((frm : Int) + (k : Int)) = (frm : Int) + (k : Int) := IntWalk.i64_in _ (by omega)
        have s3 : IntKind.u8.wrap (frm : Int) = (frm : Int) := IntWalk.u8_in _ (by omega)
        have hK : cell (d.bs.getD ((frm + k) % d.bs.length) 0) = .int .u8 ((d.bs.getD ((frm + k) % d.bs.length) 0).toNat : Int) := rfl
        rw [hK] at kJ
        rw [ha] at k11
        have H5 := Lib.hid hs5
        have HN := Lib.hid hbs
        have HO := Lib.hid hO
        have HZ := Lib.hid hZ
        have HB := Lib.hid hB
        generalize hGB : dgB d.bs frm k = GB at s4 hs5
        replace hGB := Lib.hid hGB
        generalize hGJ : (frm + k) % d.bs.length = J at s2 s6 kJ s4 hJ
        generalize ((d.bs.getD J 0).toNat : Int) = b at kJ s4
        replace hGJ := Lib.hid hGJ
        generalize hGL : d.bs.length = L at s2 s6 hJ hL k11
        replace hGL := Lib.hid hGL
        have hz : ((L : Int) == 0) = false := by simp; omega
        have hz2 : ¬ ((L : Int) = 0) := by omega
        have hz3 : ¬ (L = 0) := by omega
        have j0 : (0 : Int) ≤ (J : Int) := by omega
        have j1 : (J : Int) < (L : Int) := by omega
        have q0 : (0 : Int) ≤ (k : Int) := by omega
        have q1 : (k : Int) < 32 := by omega
        clear hs5 hK hO hZ hB hbs hne hC11
        go_wp2_with fail
        go_still_tail 16, (by kernel_rfl)
        change wpList _ _ _ _ _ wr.drew
        clear hz hz2 hz3 j0 j1 q0 q1 s1 s2 s3 s4 s6 kJ k11
        go_wp2
        go_roundw
        case rel =>
          refine ⟨k + 1, by omega, by go_num, .inl HN.out, (HB.out.drew).other (by simp; omega) _, (HZ.out.drew).other (by simp) _, ?_, (hb.drew).setCell (by simp; omega) _⟩
          rw [H5.out, hGB.out]
          exact (HO.out.drew).set k _
        case measure => simp [intOf]; omega
    · obtain rfl : k = 32 := by omega
      have hO' := Lib.hid hO
      have hZ' := Lib.hid hZ
      have hld := Lib.hid (run_loadVar_row (P := Try.prog) _ _ _ 37 _ _ _ hO Try.underlying37 rfl (by rw [dgL_size]; kernel_rfl))
      have hs1 := Lib.hid (show (#[.int .u8 0, .int .u8 0, .int .u8 0, .int .u8 0, .int .u8 0, .int .u8 0, .int .u8 0, .int .u8 0, .int .u8 0, .int .u8 0, .int .u8 0, .int .u8 0, .int .u8 0, .int .u8 0, .int .u8 0, .int .u8 0, .int .u8 0, .int .u8 0, .int .u8 0, .int .u8 0, .int .u8 0, .int .u8 0, .int .u8 0, .int .u8 0, .int .u8 0, .int .u8 0, .int .u8 0, .int .u8 0, .int .u8 0, .int .u8 0, .int .u8 0, .int .u8 0] : Array Value).size = (dgL d.bs frm 32).size by rw [dgL_size]; rfl)
      have hone : Hid (∀ v ∈ (dgL d.bs frm 32).toList, v.oneCell' = true) := Lib.hid (by
        intro v hv
        simp only [dgL, List.mem_map] at hv
        obtain ⟨i, _, rfl⟩ := hv
        split <;> rfl)
      have hsz := Lib.hid (show (Try.prog.info? 37).map (·.size) = some (dgL d.bs frm 32).size by rw [dgL_size]; kernel_rfl)
      clear hO hZ hne
      have HR : ∃ R, dgL d.bs frm 32 = R := ⟨_, rfl⟩
      obtain ⟨R, HR⟩ := HR
      rw [HR] at hO' hld hs1 hone hsz
      replace HR := Lib.hid HR
      go_wp2_with (first | (refine wpList_load_v rfl 37 _ rfl ⟨w.heap.size + 2, 0, none⟩ rfl _ hld.out ?_) | (refine wpList_store_row2 rfl 37 _ _ rfl rfl (w.heap.size + 1) rfl _ R 37 hZ'.out rfl (by exact hs1.out) hone.out hsz.out ?_; intro wz hBz hmz))
      (try simp only [Exit.inBlock, Exit.then])
      exact bodyPost_ret (results_cell_row rfl _ _ (w.heap.size + 1) _ _ _ _ rfl hBz Try.underlying37 rfl (by rw [← hs1.out]; kernel_rfl)) rfl ⟨by rw [HR.out], hb.trans (hmz.below hb.size (fun _ h => by rw [h]; omega))⟩
end Go.Proofs.Ytcipdimnbleljaa
namespace Go.Proofs.Ytcipdimnbleljaa
open Go.RowKit
open Extern.Stop (cell)

/-- a digest as bytes -/
def dgU (bs : List UInt8) (frm : Nat) : List UInt8 := if bs = [] then dg0 else (List.range 32).map fun i => UInt8.ofNat (dgB bs frm i).toNat
theorem dgB_bd (bs : List UInt8) (frm i : Nat) : 0 ≤ dgB bs frm i ∧ dgB bs frm i < 256 := by unfold dgB; omega
theorem dgU_length (bs : List UInt8) (frm : Nat) : (dgU bs frm).length = 32 := by
  unfold dgU
  split
  · decide
  · simp
theorem dgU_cells (bs : List UInt8) (frm : Nat) : dgL bs frm 32 = ((dgU bs frm).map cell).toArray := by
  by_cases hb : bs = []
  · subst hb
    rw [dgL_nil]
    rfl
  · unfold dgL dgU
    rw [if_neg hb, List.map_map]
    congr 1
    apply List.map_congr_left
    intro i hi
    rw [List.mem_range] at hi
    rw [if_pos ⟨hi, hb⟩]
    have h := dgB_bd bs frm i
    show _ = Value.int .u8 (((UInt8.ofNat (dgB bs frm i).toNat).toNat : Int))
    congr 1
    rw [UInt8.toNat_ofNat']
    omega
def rqD (d : DV) (i : Nat) : Int :=
  match i with
  | 0 => d.n 2 % 1024
  | 1 => d.n 2 / 64
  | 2 => d.n 3 % 1024
  | 3 => d.n 3 / 64
  | 4 => d.n 4 * 9
  | 5 => d.n 4 * 9 + d.n 6 % 999
  | 6 => d.n 5 * 7
  | 7 => d.n 5 * 7 + d.n 7 % 999
  | 8 => 1 + d.n 6 % 1000
  | _ => d.n 7 % 1001
def kindD (d : DV) : Int := 1 + d.kind % 5
def onD (d : DV) (c : Nat) : Bool := (d.n 1 / 2 ^ c) % 2 == 1
def msD (d : DV) (k : Nat) : List (Int × List UInt8) := ((List.range k).filter (onD d)).map fun (c : Nat) => ((c : Int), dgU d.bs c)
/-- a draft's message -/
def msgD (d : DV) (p : Option Addr) (cap : Nat) : MV where
  kind := kindD d
  round := d.n 0 % 16
  carrier := if kindD d = 2 ∨ kindD d = 4 then d.n 1 % 8 else 0
  req := if kindD d = 1 then d.n 1 % 64 else 0
  reserve := if kindD d = 1 then d.big 0 % 16777217 else 0
  rq := fun i => if kindD d = 1 then rqD d i else 0
  dg := if kindD d = 2 then dgU d.bs 0 else dg0
  ms := if kindD d = 3 then msD d 8 else []
  cap := if kindD d = 3 then cap else 0
  p := if kindD d = 3 then p else none
  bid := if kindD d = 4 then d.big 0 % 4294967297 else 0
  nonce := if kindD d = 4 then d.big 1 else 0
  state := if kindD d = 5 then (if d.n 1 % 3 = 0 then 3 else 2 + (d.n 1 % 3 / 2) * 2) else 0
  winner := if kindD d = 5 then (if d.n 1 % 3 = 0 then -1 else d.n 2 % 8) else 0
  price := if kindD d = 5 then (if d.n 1 % 3 = 0 then 0 else d.big 0 % 16777217) else 0
theorem run_two (k r : Int) (w : World) : (Instr.build 42 #[(0, .int .i64 k), (1, .int .i64 r)]).run Try.prog w = .ok (.agg ((zero53.setIfInBounds 0 (.int .i64 k)).setIfInBounds 1 (.int .i64 r))) w := by kernel_rfl

theorem run_load_row' {P : Program} (w : World) (g : Nat) (ty : TypeId) (C : Array Value) (t : TypeId) (d : TypeDesc) (hB : Blk w g C t) (hu : P.underlying ty = some d) (hd : (match d with | .struct _ | .array _ _ => true | _ => false) = true)
    (hi : (P.info? ty).map (·.size) = some C.size) : (loadVar ty ⟨g, 0, none⟩).run P w = .ok (.agg C) w := run_loadVar_row w g t ty C (0, 0) d hB hu hd hi
theorem wpList_build2_v {P : Program} {ops : Array Oper} {rest : List Oper} {o : Oper} {a : Act} {w : World} {Q : Exit → Act → World → Prop} (hgd : Region.wanted o (yielded ops a.tmps) = true) (ty : TypeId) (i j : Nat) (x y : Operand) (ho : o.op = .build ty #[(i, x), (j, y)])
    (v1 v2 : Value) (hx : a.eval x = v1) (hy : a.eval y = v2) (v : Value) (hrun : (Instr.build ty #[(i, v1), (j, v2)]).run P w = .ok v w) (h : wpList P ops Q rest (a.put o.dst v) w) : wpList P ops Q (o :: rest) a w :=
  wpList_v hgd v (by unfold execOp; simp only [ho, hx, hy, List.map_toArray, List.map_cons, List.map_nil, Sem.run_bind, hrun, Sem.run_pure, Result.andThen_ok]) h
theorem nrow_get {C : Array Value} {d : DV} (hC : DraftOf C d) (i : Nat) (h : i < 8) : (C.extract 1 (1 + 8))[i]? = some (.int .u16 (d.n i)) := by
  have := hC.size
  rw [Array.getElem?_extract_of_lt (by omega), ← Array.getElem?_eq_getElem]
  exact hC.h1 i h
theorem two_one (k r : Int) : ∀ v ∈ ((zero53.setIfInBounds 0 (.int .i64 k)).setIfInBounds 1 (.int .i64 r)).toList, v.oneCell' = true := by
  intro v hv
  rw [Array.toList_setIfInBounds, Array.toList_setIfInBounds] at hv
  rcases List.mem_or_eq_of_mem_set hv with h | h
  · rcases List.mem_or_eq_of_mem_set h with h | h
    · exact zero_one v h
    · subst h; rfl
  · subst h; rfl
def DrPost (d : DV) (w : World) (e : Ending) (w' : World) : Prop :=
  ∃ M p cap, e = .returned (.agg M) ∧ Below w.heap.size w w' ∧ MsgOf M (msgD d p cap) ∧ MarksAt w' (msgD d p cap) ∧ ∀ q, p = some q → w.heap.size ≤ q.block

def two (k r : Int) : Array Value := (zero53.setIfInBounds 0 (.int .i64 k)).setIfInBounds 1 (.int .i64 r)
theorem two_of (k r : Int) : MsgOf (two k r) { zeroM with kind := k, round := r } := by
  refine ⟨rfl, rfl, rfl, rfl, rfl, rfl, ?_, ?_, rfl, rfl, rfl, rfl, rfl, rfl, rfl⟩
  · intro i hi
    unfold two
    repeat rw [set_ne (by omega)]
    exact zero_of.h5 i hi
  · intro i hi
    unfold two
    repeat rw [set_ne (by omega)]
    exact zero_of.h15 i hi
theorem dr_none {b : Nat} (d : DV) (w : World) (cap : Nat) (h : kindD d ≠ 3) : MarksAt w (msgD d none cap) ∧ ∀ q, (none : Option Addr) = some q → b ≤ q.block := by
  have e : (msgD d none cap).ms = [] := by simp [msgD, h]
  exact ⟨⟨fun _ => e, (fun x hx => by rw [e] at hx; cases hx), (by rw [e]; simp), (fun a ha j v hv => by rw [e] at hv; simp [mkCells] at hv)⟩, (fun q hq => by cases hq)⟩
end Go.Proofs.Ytcipdimnbleljaa
namespace Go.Proofs.Ytcipdimnbleljaa
open Go.RowKit
open Extern.Stop (cell)

theorem run_idx8 {ρ : Operand → Value} {o : Oper} {w : World} {x : Operand} {b : Nat} (i : Nat) (hi : i < 8) (ho : o.op = .indexAddr 23 x (.const (.int .i64 i))) (hx : ρ x = .pointer (some ⟨b, 0, none⟩)) (hc : ∀ v, ρ (.const v) = v) :
    (execOp ρ o).run Try.prog w = .ok (.value (.pointer (some ⟨b, i, none⟩))) w := by
  have h1 : (0 : Int) ≤ (i : Int) := by omega
  have h2 : (i : Int) < 8 := by omega
  unfold execOp
  simp only [ho, hx, hc]
  go_simp
theorem run_load1 {ρ : Operand → Value} {o : Oper} {w : World} {x : Operand} {p : Addr} {v : Value} {ty : TypeId} (ho : o.op = .load ty x) (hx : ρ x = .pointer (some p)) (hrun : (loadVar ty p).run Try.prog w = .ok v w) :
    (execOp ρ o).run Try.prog w = .ok (.value v) w := by
  unfold execOp; simp only [ho, hx, Instr.loadAt, Instr.sureAddr, Sem.run_bind, Sem.run_pure, Result.andThen_ok, hrun]
theorem run_u16 {w : World} {p : Addr} {n : Int} (hc : w.cell? p = some (.int .u16 n)) : (loadVar 22 p).run Try.prog w = .ok (.int .u16 n) w := by go_simp
theorem run_rem16 {ρ : Operand → Value} {o : Oper} {w : World} {x : Operand} {n : Int} (k : Int) (hk : 0 < k ∧ k < 65536) (hn : 0 ≤ n ∧ n < 65536) (ho : o.op = .binOp .rem 22 x (.const (.int .u16 k)) 22) (hx : ρ x = .int .u16 n) (hc : ∀ v, ρ (.const v) = v) :
    (execOp ρ o).run Try.prog w = .ok (.value (.int .u16 (n % k))) w := by
  have h0 : ¬ k = 0 := by omega
  have h1 : n.tmod k = n % k := Int.tmod_eq_emod_of_nonneg hn.1
  have h2 : 0 ≤ n % k := Int.emod_nonneg _ h0
  have h3 : n % k < k := Int.emod_lt_of_pos _ hk.1
  have h4 : IntKind.u16.wrap (n % k) = n % k := IntWalk.u16_in _ (by omega)
  unfold execOp
  simp only [ho, hx, hc]
  go_simp
theorem run_conv16 {ρ : Operand → Value} {o : Oper} {w : World} {x : Operand} {n : Int} (hn : 0 ≤ n ∧ n < 65536) (ho : o.op = .convert 22 3 x) (hx : ρ x = .int .u16 n) :
    (execOp ρ o).run Try.prog w = .ok (.value (.int .i64 n)) w := by
  have h4 : wrap64 n = n := IntWalk.wrap64_in _ (by omega)
  have h5 : IntKind.i64.wrap n = n := IntWalk.i64_in _ (by omega)
  unfold execOp
  simp only [ho, hx]
  go_simp
theorem run_fld {ρ : Operand → Value} {o : Oper} {w : World} {x : Operand} {b : Nat} (f off : Nat) (ho : o.op = .fieldAddr 42 x f) (hx : ρ x = .pointer (some ⟨b, 0, none⟩)) (hf : ∀ w, (Instr.fieldAt 42 (.pointer (some ⟨b, 0, none⟩)) f).run Try.prog w = .ok (.pointer (some ⟨b, off, none⟩)) w) :
    (execOp ρ o).run Try.prog w = .ok (.value (.pointer (some ⟨b, off, none⟩))) w := by
  unfold execOp; simp only [ho, hx, Sem.run_bind, hf, Result.andThen_ok, Sem.run_pure]
theorem run_calldg {ρ : Operand → Value} {o : Oper} {w : World} {x : Operand} {C : Array Value} (ho : o.op = .call { callee := .value (.func 22), args := #[x, .const (.int .i64 0)], argTypes := #[28, 3] }) (hx : ρ x = .agg C) (hc : ∀ v, ρ (.const v) = v)
    (hf : ρ (.func 22) = .func (.func 22) #[] #[]) :
    (execOp ρ o).run Try.prog w = .ok (.enter 22 #[.agg C, .int .i64 0]) w := by
  unfold execOp
  simp only [ho]
  go_simp
theorem run_store1 {ρ : Operand → Value} {o : Oper} {w : World} {x y : Operand} {p : Addr} {n : Int} {u : Value} (ho : o.op = .store 3 x y) (hx : ρ x = .pointer (some p)) (hy : ρ y = .int .i64 n) (hc : w.cell? p = some u) (hf : w.frozen? p = false) :
    (execOp ρ o).run Try.prog w = .ok .skip (w.setCell p (.int .i64 n)) := by
  unfold execOp
  simp only [ho, hx, hy]
  go_simp
theorem run_storeP {ρ : Operand → Value} {o : Oper} {w w' : World} {x y : Operand} {p : Addr} {cs : Array Value} {ty : TypeId} (ho : o.op = .store ty x y) (hx : ρ x = .pointer (some p)) (hy : ρ y = .agg cs) (hrun : (storeVar ty p (.agg cs)).run Try.prog w = .ok () w') :
    (execOp ρ o).run Try.prog w = .ok .skip w' := by
  unfold execOp
  simp only [ho, hx, hy, Instr.storeAt, Instr.sureAddr, Sem.run_bind, Sem.run_pure, Result.andThen_ok, hrun]
theorem sv {P : Program} {C : World → Prop} {v : Value} {r : Result Next} {w : World} (h : r = .ok (.value v) w) (hC : C w) : stageUpon P C v r := by rw [h]; exact ⟨rfl, hC⟩
theorem ss {P : Program} {C : World → Prop} {r : Result Next} {w : World} (h : r = .ok .skip w) (hC : C w) : stageUpon P C undef r := by rw [h]; exact ⟨rfl, hC⟩
theorem sc {P : Program} {C : World → Prop} {v : Value} {r : Result Next} {w : World} {f : FuncId} {args : Array Value} (h : r = .ok (.enter f args) w) (hC : Calls P f args w fun e w' => e = .returned v ∧ C w') : stageUpon P C v r := by rw [h]; exact hC
theorem splice_size (C R : Array Value) (o : Nat) (h : o + R.size ≤ C.size) : (C.toList.take o ++ R.toList ++ C.toList.drop (o + R.size)).toArray.size = C.size := by
  simp
  omega
theorem splice_get (C R : Array Value) (n : Nat) (hs : n + R.size ≤ C.size) (i : Nat) : (C.toList.take n ++ R.toList ++ C.toList.drop (n + R.size)).toArray[i]? = if n ≤ i ∧ i < n + R.size then R[i - n]? else C[i]? := by
  simp only [List.getElem?_toArray, List.append_assoc]
  by_cases hin : n ≤ i ∧ i < n + R.size
  · rw [if_pos hin, List.getElem?_append_right (by simp; omega), List.getElem?_append_left (by simp; omega)]
    simp only [List.length_take, Array.length_toList, Array.getElem?_toList]
    congr 1
    omega
  · rw [if_neg hin]
    by_cases hlo : i < n
    · rw [List.getElem?_append_left (by simp; omega), List.getElem?_take_of_lt hlo, Array.getElem?_toList]
    · rw [List.getElem?_append_right (by simp; omega), List.getElem?_append_right (by simp; omega), List.getElem?_drop]
      simp only [List.length_take, Array.length_toList, Array.getElem?_toList]
      congr 1
      omega
theorem row_d2 (d : DV) (hk : kindD d = 2) {D : Array Value} (hs : D.size = 53) (hg : ∀ i : Nat, D[i]? = if 15 ≤ i ∧ i < 15 + 32 then (dgL d.bs 0 32)[i - 15]? else ((two (kindD d) (d.n 0 % 16)).setIfInBounds 2 (.int .i64 (d.n 1 % 8)))[i]?) : MsgOf D (msgD d none 0) := by
  have h := two_of (kindD d) (d.n 0 % 16)
  have hz := h.size
  refine ⟨hs, ?_, ?_, ?_, ?_, ?_, ?_, ?_, ?_, ?_, ?_, ?_, ?_, ?_, ?_⟩
  · rw [hg, if_neg (by omega), set_ne (by omega)]; exact h.h0
  · rw [hg, if_neg (by omega), set_ne (by omega)]; exact h.h1
  · rw [hg, if_neg (by omega), set_eq (by omega)]; simp [msgD, hk]
  · rw [hg, if_neg (by omega), set_ne (by omega), h.h3]; simp [msgD, hk, zeroM]
  · rw [hg, if_neg (by omega), set_ne (by omega), h.h4]; simp [msgD, hk, zeroM]
  · intro i hi
    rw [hg, if_neg (by omega), set_ne (by omega), h.h5 i hi]; simp [msgD, hk, zeroM]
  · intro i hi
    rw [hg, if_pos (by omega), show 15 + i - 15 = i by omega, dgU_cells, show (msgD d none 0).dg = dgU d.bs 0 by simp [msgD, hk]]
    have hl := dgU_length d.bs 0
    simp [List.getD_eq_getElem?_getD, hl, hi]
  · rw [show (msgD d none 0).dg = dgU d.bs 0 by simp [msgD, hk]]; exact dgU_length _ _
  · rw [hg, if_neg (by omega), set_ne (by omega), h.h47]; simp [msgD, hk, zeroM]
  · rw [hg, if_neg (by omega), set_ne (by omega), h.h48]; simp [msgD, hk, zeroM]
  · rw [hg, if_neg (by omega), set_ne (by omega), h.h49]; simp [msgD, hk, zeroM]
  · rw [hg, if_neg (by omega), set_ne (by omega), h.h50]; simp [msgD, hk, zeroM]
  · rw [hg, if_neg (by omega), set_ne (by omega), h.h51]; simp [msgD, hk, zeroM]
  · rw [hg, if_neg (by omega), set_ne (by omega), h.h52]; simp [msgD, hk, zeroM]
def ClD2 (C NR M0 M1 M2 : Array Value) (w : World) (mb : Nat) (k : Nat) (w' : World) : Prop :=
  Blk w' mb (if k = 0 then M0 else if k = 1 then M1 else M2) 42 ∧ Blk w' w.heap.size C 28 ∧ Blk w' (w.heap.size + 1) zero53 42 ∧ Blk w' (w.heap.size + 2) NR 23 ∧ Below w.heap.size w w'
theorem ClD2.below {C NR M0 M1 M2 : Array Value} {w : World} {mb k : Nat} {w' w'' : World} (h : ClD2 C NR M0 M1 M2 w mb k w') (hb : Below w'.heap.size w' w'') : ClD2 C NR M0 M1 M2 w mb k w'' :=
  ⟨h.1.mod ((Mod.refl (fun _ => False) _).after hb) (fun h => h), h.2.1.mod ((Mod.refl (fun _ => False) _).after hb) (fun h => h), h.2.2.1.mod ((Mod.refl (fun _ => False) _).after hb) (fun h => h), h.2.2.2.1.mod ((Mod.refl (fun _ => False) _).after hb) (fun h => h), h.2.2.2.2.trans (hb.mono h.2.2.2.2.size)⟩
end Go.Proofs.Ytcipdimnbleljaa
