/-
  A map from integers to pairs of integers, that a call makes: its look-up, its store, its range. Of no program.
-/
import Derived.Test.YtcdpiemkbefcoaaRw
import Derived.Maps.RangeRun
namespace Go.Proofs.Ytcdpiemkbefcoaa
open Go.RowKit

abbrev Pairs := List (Int × Int × Int)
def esL : Nat → Pairs → List MapEntry
  | _, [] => []
  | i, x :: r => { key := .int .i64 x.1, val := .agg #[.int .i64 x.2.1, .int .i64 x.2.2], born := i } :: esL (i + 1) r
def esA (M : Pairs) : Array MapEntry := (esL 0 M).toArray
/-- what lies at a key; nothing: zeros -/
def lookM : Pairs → Int → Int × Int
  | [], _ => (0, 0)
  | x :: r, k => if x.1 = k then x.2 else lookM r k
def atM : Pairs → Int → Option Nat
  | [], _ => none
  | x :: r, k => if x.1 = k then some 0 else (atM r k).map (· + 1)
def putM : Pairs → Int → Int × Int → Pairs
  | [], k, v => [(k, v)]
  | x :: r, k, v => if x.1 = k then (k, v) :: r else x :: putM r k v
theorem esL_len : ∀ (M : Pairs) (i : Nat), (esL i M).length = M.length
  | [], _ => rfl
  | x :: r, i => by simp [esL, esL_len r]
theorem lookM_none : ∀ (M : Pairs) (k : Int), atM M k = none → lookM M k = (0, 0)
  | [], _, _ => rfl
  | x :: r, k, h => by
    unfold atM at h
    unfold lookM
    by_cases e : x.1 = k
    · rw [if_pos e] at h; cases h
    · rw [if_neg e] at h ⊢
      exact lookM_none r k (by cases hr : atM r k with | none => rfl | some j => rw [hr] at h; cases h)
def pairV (v : Int × Int) : Value := .agg #[.int .i64 v.1, .int .i64 v.2]
theorem find_es (d : TypeDesc) (hd : d = .int .i64) (k : Int) : ∀ (M : Pairs) (i j : Nat), Instr.findNow d (.int .i64 k) (esL i M) j = some ((atM M k).map fun n => (j + n, pairV (lookM M k)))
  | [], i, j => by subst hd; rfl
  | x :: r, i, j => by
    subst hd
    unfold esL Instr.findNow atM lookM
    by_cases e : x.1 = k
    · subst e
      simp [Instr.sameNow, pairV]
    · have e' : (k == x.1) = false := beq_eq_false_iff_ne.2 (fun h => e h.symm)
      simp only [Instr.sameNow, if_true, e', if_neg e]
      rw [find_es (.int .i64) rfl k r (i + 1) (j + 1)]
      cases atM r k with
      | none => rfl
      | some n => simp; omega
section
variable {P : Program}
theorem run_lookup_pairs (w : World) (t ke ve m : Nat) (M : Pairs) (k : Int) (ht : P.underlying t = some (.map ke ve)) (hk : P.underlying ke = some (.int .i64)) (hz : ∀ w, (zeroValue ve).run P w = .ok (pairV (0, 0)) w)
    (hb : w.heap[m]? = some (.map (esA M) M.length)) : (Instr.lookup t (.map (some m)) (.int .i64 k) false).run P w = .ok (pairV (lookM M k)) w := by
  have hck : ∀ b w, (Instr.checkKey b 10000 ke (.int .i64 k)).run P w = .ok () w := fun b w => by
    unfold Instr.checkKey
    simp [Sem.run_bind, run_underlying hk]
  have hfk : ∀ w, (Instr.findKey ke (.int .i64 k) (esA M).toList).run P w = .ok ((atM M k).map fun n => (0 + n, pairV (lookM M k))) w := fun w => by
    unfold Instr.findKey esA
    simp only [Sem.run_bind, run_underlying hk, Result.andThen_ok]
    rw [find_es _ rfl]
    rfl
  have hgo : (getObj m).run P w = .ok (.map (esA M) M.length) w := by simp [getObj, Sem.run, hb]
  unfold Instr.lookup
  simp only [Sem.run_bind, run_underlying ht, Result.andThen_ok, hgo, Sem.run_pure, hck, hfk]
  cases ha : atM M k with
  | none =>
    simp only [Option.map_none, Sem.run_bind, hz, Result.andThen_ok, Sem.run_pure, Bool.false_eq_true, if_false]
    rw [lookM_none M k ha]
  | some n =>
    simp only [Option.map_some, Sem.run_bind, Sem.run_pure, Result.andThen_ok, Bool.false_eq_true, if_false]
theorem esL_put : ∀ (M : Pairs) (k : Int) (v : Int × Int) (i : Nat), match atM M k with
    | some n => (esL i M).toArray.modify n (fun e => { e with key := .int .i64 k, val := pairV v }) = (esL i (putM M k v)).toArray
    | none => (esL i M).toArray.push { key := .int .i64 k, val := pairV v, born := i + M.length } = (esL i (putM M k v)).toArray
  | [], k, v, i => by simp [atM, esL, putM, pairV]
  | x :: r, k, v, i => by
    unfold atM putM
    by_cases e : x.1 = k
    · rw [if_pos e, if_pos e]
      apply Array.ext_getElem?
      intro j
      rw [Array.getElem?_modify]
      unfold esL
      cases j with
      | zero => simp [pairV]
      | succ j => simp
    · rw [if_neg e, if_neg e]
      have ih := esL_put r k v (i + 1)
      cases ha : atM r k with
      | none =>
        rw [ha] at ih
        simp only [Option.map_none] at ih ⊢
        apply Array.toList_inj.1
        have ih' := congrArg Array.toList ih
        simp only [Array.toList_push] at ih' ⊢
        unfold esL
        rw [← ih']
        simp
        omega
      | some n =>
        rw [ha] at ih
        simp only [Option.map_some] at ih ⊢
        apply Array.ext_getElem?
        intro j
        rw [Array.getElem?_modify]
        unfold esL
        cases j with
        | zero => simp
        | succ j =>
          have := congrArg (fun a => a[j]?) ih
          simp only [Array.getElem?_modify] at this
          simpa using this
theorem putM_len : ∀ (M : Pairs) (k : Int) (v : Int × Int), (putM M k v).length = match atM M k with | some _ => M.length | none => M.length + 1
  | [], k, v => by simp [atM, putM]
  | x :: r, k, v => by
    unfold atM putM
    by_cases e : x.1 = k
    · rw [if_pos e, if_pos e]; rfl
    · rw [if_neg e, if_neg e]
      have ih := putM_len r k v
      cases ha : atM r k with
      | none => rw [ha] at ih; simp [ih]
      | some n => rw [ha] at ih; simp [ih]
theorem atM_lt : ∀ (M : Pairs) (k : Int) (n : Nat), atM M k = some n → ∃ x, (esL 0 M)[n]? = some x ∧ x.key = .int .i64 k := by
  have key : ∀ (M : Pairs) (k : Int) (n i : Nat), atM M k = some n → ∃ x, (esL i M)[n]? = some x ∧ x.key = .int .i64 k := by
    intro M
    induction M with
    | nil => intro k n i h; cases h
    | cons x r ih =>
      intro k n i h
      unfold atM at h
      unfold esL
      by_cases e : x.1 = k
      · rw [if_pos e] at h
        cases h
        exact ⟨_, rfl, by rw [e]⟩
      · rw [if_neg e] at h
        cases ha : atM r k with
        | none => rw [ha] at h; cases h
        | some m =>
          rw [ha] at h
          cases h
          obtain ⟨y, h1, h2⟩ := ih k m (i + 1) ha
          exact ⟨y, by simpa using h1, h2⟩
  exact fun M k n h => key M k n 0 h
open Go.ChangeMaps (setBlock) in
theorem run_update_pairs (w : World) (t ke ve m : Nat) (M : Pairs) (k : Int) (v : Int × Int) (ht : P.underlying t = some (.map ke ve)) (hk : P.underlying ke = some (.int .i64))
    (hb : w.heap[m]? = some (.map (esA M) M.length)) : (Instr.mapUpdate t (.map (some m)) (.int .i64 k) (pairV v)).run P w = .ok () (setBlock w m (.map (esA (putM M k v)) (putM M k v).length)) := by
  have hck : ∀ b w, (Instr.checkKey b 10000 ke (.int .i64 k)).run P w = .ok () w := fun b w => by
    unfold Instr.checkKey
    simp [Sem.run_bind, run_underlying hk]
  have hfk : ∀ w, (Instr.findKey ke (.int .i64 k) (esA M).toList).run P w = .ok ((atM M k).map fun n => (0 + n, pairV (lookM M k))) w := fun w => by
    unfold Instr.findKey esA
    simp only [Sem.run_bind, run_underlying hk, Result.andThen_ok]
    rw [find_es _ rfl]
    rfl
  have hgo : (getObj m).run P w = .ok (.map (esA M) M.length) w := by simp [getObj, Sem.run, hb]
  have hso : ∀ o, (setObj m o).run P w = .ok () (setBlock w m o) := fun o => by simp [setObj, Sem.run, hb, setBlock]
  have hks : (Instr.keyThatStays (.int .i64 k) (.int .i64 k)).run P w = .ok (.int .i64 k) w := by
    unfold Instr.keyThatStays
    rw [if_pos (by simp [Instr.sameBits])]
    rfl
  have hp := esL_put M k v 0
  have hl := putM_len M k v
  unfold Instr.mapUpdate
  simp only [Sem.run_bind, run_underlying ht, Result.andThen_ok, hgo, hck, hfk]
  cases ha : atM M k with
  | none =>
    rw [ha] at hp hl
    simp only [Nat.zero_add] at hp
    simp only [Option.map_none, hso]
    rw [hl]
    unfold esA
    rw [← hp]
  | some n =>
    rw [ha] at hp hl
    obtain ⟨x, hx, hxk⟩ := atM_lt M k n ha
    have he : ((esA M)[n]?.map (·.key)).getD (.int .i64 k) = .int .i64 k := by
      unfold esA
      rw [List.getElem?_toArray, hx]
      exact hxk
    simp only [Option.map_some, Nat.zero_add, Sem.run_bind, he, hks, Result.andThen_ok, hso]
    rw [hl]
    unfold esA
    rw [← hp]
theorem wpList_vw {ops : Array Oper} {rest : List Oper} {o : Oper} {a : Act} {w w' : World} {Q : Exit → Act → World → Prop} (hgd : Region.wanted o (yielded ops a.tmps) = true) (v : Value)
    (hrun : (execOp a.eval o).run P w = .ok (.value v) w') (h : wpList P ops Q rest (a.put o.dst v) w') : wpList P ops Q (o :: rest) a w :=
  wpList_step fun K hK => by
    rw [if_pos hgd]
    unfold Oper.wp
    rw [hrun]
    exact hK _ _ h
theorem wpList_sw {ops : Array Oper} {rest : List Oper} {o : Oper} {a : Act} {w w' : World} {Q : Exit → Act → World → Prop} (hgd : Region.wanted o (yielded ops a.tmps) = true) (hdst : o.dst = none)
    (hrun : (execOp a.eval o).run P w = .ok .skip w') (h : wpList P ops Q rest a w') : wpList P ops Q (o :: rest) a w :=
  wpList_step fun K hK => by
    rw [if_pos hgd]
    unfold Oper.wp
    rw [hrun]
    show K (a.put o.dst undef) _
    rw [hdst]
    exact hK _ _ h
variable {ρ : Operand → Value} {o : Oper} {w w' : World} {x y z : Operand} {t : TypeId} {u v k : Value}
theorem exec_lookup {ok : Bool} (ho : o.op = .lookup t x y ok) (hx : ρ x = u) (hy : ρ y = k) (h : (Instr.lookup t u k ok).run P w = .ok v w') : (execOp ρ o).run P w = .ok (.value v) w' := by
  unfold execOp; simp only [ho, hx, hy, Sem.run_bind, h, Result.andThen_ok, Sem.run_pure]
theorem exec_update (ho : o.op = .mapUpdate t x y z) (hx : ρ x = u) (hy : ρ y = k) (hz : ρ z = v) (h : (Instr.mapUpdate t u k v).run P w = .ok () w') : (execOp ρ o).run P w = .ok .skip w' := by
  unfold execOp; simp only [ho, hx, hy, hz, Sem.run_bind, h, Result.andThen_ok, Sem.run_pure]
theorem exec_next {b : Bool} (ho : o.op = .next x b) (hx : ρ x = u) (h : (Instr.next u b o.type).run P w = .ok v w') : (execOp ρ o).run P w = .ok (.value v) w' := by
  unfold execOp; simp only [ho, hx, Sem.run_bind, h, Result.andThen_ok, Sem.run_pure]
theorem exec_entry (ho : o.op = .entry x) (hx : ρ x = u) (h : (Instr.entry u).run P w = .ok v w') : (execOp ρ o).run P w = .ok (.value v) w' := by
  unfold execOp; simp only [ho, hx, Sem.run_bind, h, Result.andThen_ok, Sem.run_pure]
theorem exec_range (ho : o.op = .range t x) (hx : ρ x = u) (h : (Instr.range t u).run P w = .ok v w') : (execOp ρ o).run P w = .ok (.value v) w' := by
  unfold execOp; simp only [ho, hx, Sem.run_bind, h, Result.andThen_ok, Sem.run_pure]
end
open Go.ChangeMaps (setBlock)
theorem setBlock_mod (w : World) (m : Nat) (o : Obj) : Mod (· = m) w (setBlock w m o) :=
  ⟨rfl, rfl, rfl, by simp [setBlock], fun i _ hi => by simp only [setBlock]; rw [Array.getElem?_setIfInBounds_ne (fun e => hi e.symm)]⟩
theorem setBlock_at (w : World) (m : Nat) (o : Obj) (h : m < w.heap.size) : (setBlock w m o).heap[m]? = some o := by
  simp [setBlock, h]
/-- a map in a block -/
def MapAt (w : World) (m : Nat) (M : Pairs) : Prop := w.heap[m]? = some (.map (esA M) M.length)
theorem MapAt.lt {w : World} {m : Nat} {M : Pairs} (h : MapAt w m M) : m < w.heap.size := by
  rcases Nat.lt_or_ge m w.heap.size with k | k
  · exact k
  · unfold MapAt at h; rw [Array.getElem?_eq_none k] at h; cases h
theorem MapAt.mod {w w' : World} {m : Nat} {M : Pairs} (h : MapAt w m M) {S : Nat → Prop} (hm : Mod S w w') (hs : ¬ S m) : MapAt w' m M := (hm.block m h.lt hs).trans h
theorem MapAt.new (w : World) : MapAt (w.alloc (.map #[] 0)) w.heap.size [] := World.alloc_heap_new w _
theorem MapAt.update {P : Program} {w : World} {m : Nat} {M : Pairs} (h : MapAt w m M) (t ke ve : Nat) (k : Int) (v : Int × Int) (ht : P.underlying t = some (.map ke ve)) (hk : P.underlying ke = some (.int .i64)) :
    ∃ w', (Instr.mapUpdate t (.map (some m)) (.int .i64 k) (pairV v)).run P w = .ok () w' ∧ MapAt w' m (putM M k v) ∧ Mod (· = m) w w' :=
  ⟨_, run_update_pairs w t ke ve m M k v ht hk h, setBlock_at _ _ _ h.lt, setBlock_mod _ _ _⟩
theorem run_range_map {P : Program} {w : World} {m : Nat} {M : Pairs} (h : MapAt w m M) (t ke ve : Nat) (ht : P.underlying t = some (.map ke ve)) :
    (Instr.range t (.map (some m))).run P w = .ok (.pointer (some ⟨w.heap.size, 0, none⟩)) (w.alloc (.mapIter (some m) M.length #[] M.length)) := by
  have hgo : (getObj m).run P w = .ok (.map (esA M) M.length) w := by
    unfold MapAt at h
    simp [getObj, Sem.run, h]
  unfold Instr.range
  simp only [Sem.run_bind, run_underlying ht, Result.andThen_ok, hgo, Sem.run_pure]
  rfl
/-- an iterator that has handed out those in S -/
def IterAt (w : World) (r m n : Nat) (S : Array Nat) : Prop := ∃ c, n ≤ c ∧ w.heap[r]? = some (.mapIter (some m) n S c)
theorem esL_born : ∀ (M : Pairs) (i : Nat), (esL i M).map (·.born) = (List.range' i M.length)
  | [], i => rfl
  | x :: r, i => by simp [esL, esL_born r, List.range'_succ]
theorem esL_get : ∀ (M : Pairs) (i j : Nat) (e : MapEntry), (esL i M)[j]? = some e → ∃ x, M[j]? = some x ∧ e = { key := .int .i64 x.1, val := pairV x.2, born := i + j }
  | [], i, j, e, h => by simp [esL] at h
  | x :: r, i, j, e, h => by
    unfold esL at h
    cases j with
    | zero => simp at h; exact ⟨x, rfl, h.symm⟩
    | succ j =>
      simp at h
      obtain ⟨y, h1, h2⟩ := esL_get r (i + 1) j e h
      exact ⟨y, by simpa using h1, by rw [h2]; congr 1; omega⟩
theorem next_map {P : Program} {w : World} {r m : Nat} {M : Pairs} {S : Array Nat} (hM : MapAt w m M) (hI : IterAt w r m M.length S) (ty : TypeId) (hr : r < w.heap.size) (hne : r ≠ m) :
    ((∀ j, j < M.length → j ∈ S) ∧ (Instr.next (.pointer (some ⟨r, 0, none⟩)) false ty).run P w = .ok (.tuple #[.bool false]) w) ∨
    ∃ j x w', M[j]? = some x ∧ j ∉ S ∧ (Instr.next (.pointer (some ⟨r, 0, none⟩)) false ty).run P w = .ok (.tuple #[.bool true, .int .i64 x.1, pairV x.2]) w' ∧ MapAt w' m M ∧ IterAt w' r m M.length (S.push j) ∧ Mod (· = r) w w' ∧
      (Instr.entry (.pointer (some ⟨r, 0, none⟩))).run P w' = .ok (.tuple #[.int .i64 x.1, pairV x.2]) w' := by
  obtain ⟨c, hc, hIt⟩ := hI
  have hb : ∀ e ∈ (esA M).toList, e.born < M.length := by
    intro e he
    have h1 : e.born ∈ (esL 0 M).map (·.born) := List.mem_map.2 ⟨e, by simpa [esA] using he, rfl⟩
    rw [esL_born] at h1
    simpa using h1
  rcases run_next_at (P := P) w ty r m M.length c S (esA M) M.length hIt hM hb hc with ⟨h0, hrun⟩ | ⟨e, he, w1, hw1, hrun⟩
  · refine .inl ⟨fun j hj => ?_, hrun⟩
    have hle : (esL 0 M).length = M.length := esL_len M 0
    have hg : (esL 0 M)[j]? = some ((esL 0 M)[j]'(by omega)) := List.getElem?_eq_getElem (by omega)
    obtain ⟨x, _, hx⟩ := esL_get M 0 j _ hg
    have h0' : leftOf (esA M) S = #[] := Array.eq_empty_of_size_eq_zero h0
    unfold leftOf at h0'
    rw [Array.filter_eq_empty_iff] at h0'
    have := h0' ((esL 0 M)[j]'(by omega)) (by simp [esA])
    rw [hx] at this
    simpa using this
  · right
    unfold leftOf at he
    simp only [Array.toList_filter, List.mem_filter] at he
    obtain ⟨he1, he2⟩ := he
    have he1' : e ∈ esL 0 M := by simpa [esA] using he1
    obtain ⟨j, hj, hje⟩ := List.getElem_of_mem he1'
    obtain ⟨x, hx, hxe⟩ := esL_get M 0 j e (by rw [List.getElem?_eq_getElem hj, hje])
    have hborn : e.born = j := by rw [hxe]; simp
    have hw1s : w1.heap = w.heap := by rcases hw1 with rfl | rfl <;> rfl
    have hl1 : r < w1.heap.size := by rw [hw1s]; exact hr
    have hmod1 : Mod (· = r) w w1 := by
      rcases hw1 with rfl | rfl
      · exact Mod.refl _ _
      · exact (Mod.refl _ _).drew
    have hmod := hmod1.trans (setBlock_mod w1 r (.mapIter (some m) M.length (S.push e.born) M.length))
    have hM' : MapAt (setBlock w1 r (.mapIter (some m) M.length (S.push e.born) M.length)) m M := hM.mod hmod (by show ¬ m = r; exact fun h => hne h.symm)
    have hI' := setBlock_at w1 r (.mapIter (some m) M.length (S.push e.born) M.length) hl1
    refine ⟨j, x, _, hx, ?_, by rw [hrun, hxe], hM', ⟨M.length, Nat.le_refl _, by rw [hI', hborn]⟩, hmod, ?_⟩
    · rw [hborn] at he2
      simpa using he2
    · have := run_entry_at (P := P) _ r m M.length S (esA M) M.length e hI' hM' he1 (by
        have : (esA M).toList.map (·.born) = List.range' 0 M.length := by simp only [esA]; exact esL_born M 0
        rw [this]
        exact List.nodup_range')
      rw [this, hxe]
end Go.Proofs.Ytcdpiemkbefcoaa
