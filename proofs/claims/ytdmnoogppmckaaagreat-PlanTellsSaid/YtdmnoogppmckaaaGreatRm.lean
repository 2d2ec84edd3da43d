/-
  Layer 8: the sum of what is open is what is on board. Plain.
  Layer 8, the document's: Profile, Fits.
-/
import Derived.Test.YtdmnoogppmckaaaGreatRo
import Derived.Test.YtdmnoogppmckaaaGreatFt
namespace Go.Proofs.YtdmnoogppmckaaaGreat

theorem insD_mem (L : List Int) (n x : Int) : x ∈ insD L n ↔ x = n ∨ x ∈ L := by
  have h := List.takeWhile_append_dropWhile (p := fun x => decide (x < n)) (l := L)
  unfold insD
  constructor
  · intro hx
    rcases List.mem_append.1 hx with h1 | h1
    · exact .inr (by rw [← h]; exact List.mem_append_left _ h1)
    · rcases List.mem_cons.1 h1 with h2 | h2
      · exact .inl h2
      · exact .inr (by rw [← h]; exact List.mem_append_right _ h2)
  · rintro (rfl | hx)
    · simp
    · rw [← h] at hx
      rcases List.mem_append.1 hx with h1 | h1
      · exact List.mem_append_left _ h1
      · exact List.mem_append_right _ (List.mem_cons_of_mem _ h1)
theorem insD_sum (f : Int → Int) (L : List Int) (n : Int) : ((insD L n).map f).sum = f n + (L.map f).sum := by
  have h := congrArg (fun L => (L.map f).sum) (List.takeWhile_append_dropWhile (p := fun x => decide (x < n)) (l := L))
  unfold insD
  simp only [List.map_append, List.sum_append, List.map_cons, List.sum_cons] at h ⊢
  omega
theorem opL_mem (l : List (Int × Int)) (k : Nat) (r : Int) : ∀ i, r ∈ opL l k i → ∃ j, j < i ∧ r = (l.getD j (0, 0)).1
  | 0, h => by simp [opL] at h
  | i + 1, h => by
    rw [opL] at h
    split at h
    · rcases (insD_mem _ _ _).1 h with h | h
      · exact ⟨i, by omega, h⟩
      · obtain ⟨j, hj, e⟩ := opL_mem l k r i h
        exact ⟨j, by omega, e⟩
    · obtain ⟨j, hj, e⟩ := opL_mem l k r i h
      exact ⟨j, by omega, e⟩
theorem opL_sum (f : Int → Int) (l : List (Int × Int)) (k : Nat) : ∀ i, ((opL l k i).map f).sum = ((List.range i).map fun j => if opT l (l.getD j (0, 0)).1 j k = true then f (l.getD j (0, 0)).1 else 0).sum
  | 0 => by simp [opL]
  | i + 1 => by
    rw [opL, List.range_succ, List.map_append, List.sum_append, ← opL_sum f l k i]
    simp only [List.map_cons, List.map_nil, List.sum_cons, List.sum_nil]
    split
    · rw [insD_sum]; omega
    · omega
/-- a row that is a route's beginning -/
def Okq (q : List (Int × Int)) : Prop := ∀ j s, q[j]? = some s → okAt (q.take j) s
theorem okq_take {l : List (Int × Int)} (h : Okq l) (k : Nat) : Okq (l.take k) := by
  intro j s hj
  have hlt := (List.getElem?_eq_some_iff.1 hj).1
  rw [List.length_take] at hlt
  rw [List.getElem?_take_of_lt (by omega)] at hj
  rw [List.take_take, Nat.min_eq_left (by omega)]
  exact h j s hj
theorem opF_count {l : List (Int × Int)} (h : Okq l) (r : Int) (i : Nat) : ∀ j, j ≤ l.length → (opF l r i j).1 = (l.take j).count (r, 0) ∧ (opF l r i j).2.1 = (l.take j).count (r, 1)
  | 0, _ => by simp [opF]
  | j + 1, hj => by
    have hlt : j < l.length := by omega
    obtain ⟨i1, i2⟩ := opF_count h r i j (by omega)
    have hs : l.getD j (0, 0) = l[j] := by rw [List.getD_eq_getElem?_getD, List.getElem?_eq_getElem hlt]; rfl
    have hok := h j l[j] (List.getElem?_eq_getElem hlt)
    simp only [opF, hs]
    rw [count_take_succ l j hlt, count_take_succ l j hlt]
    clear hs
    generalize l[j] = s at hok ⊢
    obtain ⟨x1, x2⟩ := s
    unfold okAt at hok
    dsimp only at hok ⊢
    by_cases hr : x1 = r
    · subst hr
      rw [if_neg (by simp)]
      dsimp only
      rcases hok.2 with ⟨rfl, h1, h2⟩ | ⟨rfl, h1, h2⟩
      · simp [h1, h2]
      · simp [h1, h2, i1]
    · rw [if_pos hr, if_neg (by simp [hr]), if_neg (by simp [hr])]
      simp [i1, i2]
theorem opF_first (l : List (Int × Int)) (r : Int) (i : Nat) : ∀ j, (opF l r i j).2.2 = true ↔ ∀ m, m < j → m < i → (l.getD m (0, 0)).1 ≠ r
  | 0 => by simp [opF]
  | j + 1 => by
    have ih := opF_first l r i j
    simp only [opF]
    by_cases hr : (l.getD j (0, 0)).1 = r
    · rw [if_neg (by simpa using hr)]
      simp only [Bool.and_eq_true, decide_eq_true_eq, ih]
      constructor
      · rintro ⟨h1, h2⟩ m hm hmi
        by_cases e : m = j
        · omega
        · exact h1 m (by omega) hmi
      · intro hh
        refine ⟨fun m hm hmi => hh m (by omega) hmi, ?_⟩
        by_cases hij : i ≤ j
        · exact hij
        · exact absurd hr (hh j (by omega) (by omega))
    · rw [if_pos hr, ih]
      constructor
      · intro hh m hm hmi
        by_cases e : m = j
        · subst e; exact hr
        · exact hh m (by omega) hmi
      · exact fun hh m hm hmi => hh m (by omega) hmi
theorem opT_iff {l : List (Int × Int)} (h : Okq l) {i k : Nat} (hi : i < k) (hk : k ≤ l.length) {s : Int × Int} (hs : l[i]? = some s) :
    opT l s.1 i k = true ↔ s.2 = 0 ∧ (l.take k).count (s.1, 1) = 0 := by
  obtain ⟨c1, c2⟩ := opF_count h s.1 i k hk
  have hf := opF_first l s.1 i k
  have hok := h i s hs
  have hgd : ∀ m (hm : m < l.length), l.getD m (0, 0) = l[m] := fun m hm => by rw [List.getD_eq_getElem?_getD, List.getElem?_eq_getElem hm]; rfl
  unfold opT
  rw [Bool.and_eq_true, Bool.and_eq_true, hf, beq_iff_eq, beq_iff_eq, c1, c2]
  obtain ⟨r, q⟩ := s
  unfold okAt at hok
  dsimp only at hok ⊢
  have hmono := count_take_le l i k (by omega)
  have hle1 : (l.take k).count (r, 0) ≤ 1 := by
    have hc := (opF_count h r i k hk).1
    have := (opF_01 l r i k).1
    omega
  have hat : q = 0 → 1 ≤ (l.take k).count (r, 0) := by
    intro e
    subst e
    have h1 : (l.take k)[i]? = some (r, 0) := by rw [List.getElem?_take_of_lt hi]; exact hs
    exact List.count_pos_iff.2 (List.mem_of_getElem? h1)
  constructor
  · rintro ⟨h1, h2, h3⟩
    rcases hok.2 with ⟨rfl, _, _⟩ | ⟨rfl, h4, _⟩
    · exact ⟨rfl, by omega⟩
    · exfalso
      obtain ⟨m, hm⟩ := List.getElem?_of_mem (List.count_pos_iff.1 (show 0 < (l.take i).count (r, 0) by omega))
      have hmi := (List.getElem?_eq_some_iff.1 hm).1
      rw [List.length_take] at hmi
      rw [List.getElem?_take_of_lt (by omega)] at hm
      refine h1 m (by omega) (by omega) ?_
      rw [List.getD_eq_getElem?_getD, hm]
      rfl
  · rintro ⟨rfl, h3⟩
    rcases hok.2 with ⟨_, h4, h5⟩ | ⟨e, _⟩
    · refine ⟨fun m hm hmi e => ?_, by have := hat rfl; omega, by omega⟩
      have hml : m < l.length := by omega
      rw [hgd m hml] at e
      have hm2 : (l.take i)[m]? = some l[m] := by rw [List.getElem?_take_of_lt hmi, List.getElem?_eq_getElem hml]
      have hokm := (h m l[m] (List.getElem?_eq_getElem hml)).2
      have hin := List.mem_of_getElem? hm2
      have hp : l[m] = (l[m].1, l[m].2) := rfl
      rw [e] at hp
      rcases hokm with ⟨h6, _⟩ | ⟨h6, _⟩
      · rw [h6] at hp; rw [hp] at hin; have := List.count_pos_iff.2 hin; omega
      · rw [h6] at hp; rw [hp] at hin; have := List.count_pos_iff.2 hin; omega
    · omega
theorem sum_pick (q : List (Int × Int)) (x : Int × Int) (v : Int) : (q.map fun u => if u = x then v else 0).sum = (q.count x : Nat) * v := by
  induction q with
  | nil => simp
  | cons y q ih =>
    rw [List.map_cons, List.sum_cons, ih, List.count_cons]
    by_cases h : y = x
    · simp only [h, if_true, beq_self_eq_true]
      rw [Int.natCast_add, Int.add_mul]
      simp
      omega
    · simp [h]
theorem sum_sub (q : List (Int × Int)) (a b : Int × Int → Int) : (q.map fun u => a u - b u).sum = (q.map a).sum - (q.map b).sum := by
  induction q with
  | nil => simp
  | cons y q ih => simp only [List.map_cons, List.sum_cons, ih]; omega
def opS (f : Int → Int) (q : List (Int × Int)) : Int := (q.map fun s => if s.2 = 0 ∧ q.count (s.1, 1) = 0 then f s.1 else 0).sum
def sgF (f : Int → Int) (s : Int × Int) : Int := (if s.2 = 0 then 1 else -1) * f s.1
theorem opS_snoc (f : Int → Int) (q : List (Int × Int)) (s : Int × Int) (h : okAt q s) : opS f (q ++ [s]) = opS f q + sgF f s := by
  obtain ⟨r, k⟩ := s
  unfold okAt at h
  dsimp only at h
  unfold opS
  rw [List.map_append, List.sum_append]
  rcases h.2 with ⟨rfl, h1, h2⟩ | ⟨rfl, h1, h2⟩
  · have e : ∀ u : Int, (q ++ [(r, (0 : Int))]).count (u, 1) = q.count (u, 1) := fun u => by rw [count_snoc, if_neg (by simp)]; rfl
    simp only [e]
    simp [h2, sgF]
  · have e : ∀ u : Int, (q ++ [(r, (1 : Int))]).count (u, 1) = q.count (u, 1) + if r = u then 1 else 0 := fun u => by rw [count_snoc]; by_cases hu : r = u <;> simp [hu]
    simp only [e]
    have hm : (q.map fun s => if s.2 = 0 ∧ (q.count (s.1, 1) + if r = s.1 then 1 else 0) = 0 then f s.1 else 0) = q.map fun s => (if s.2 = 0 ∧ q.count (s.1, 1) = 0 then f s.1 else 0) - (if s = (r, 0) then f r else 0) := by
      refine List.map_congr_left fun s _ => ?_
      obtain ⟨u, v⟩ := s
      dsimp only
      by_cases hu : r = u
      · subst hu
        by_cases hv : v = 0
        · subst hv; simp [h2]
        · simp [hv]
      · have hu' : ¬ u = r := fun e => hu e.symm
        simp [hu, hu']
    rw [hm, sum_sub, sum_pick, h1]
    simp [sgF]
    omega
theorem opS_eq (f : Int → Int) (l : List (Int × Int)) (h : Okq l) : ∀ k, k ≤ l.length → opS f (l.take k) = ((l.take k).map (sgF f)).sum
  | 0, _ => by simp [opS]
  | k + 1, hk => by
    have hlt : k < l.length := by omega
    rw [List.take_succ_eq_append_getElem hlt, opS_snoc f _ _ (h k l[k] (List.getElem?_eq_getElem hlt)), opS_eq f l h k (by omega), List.map_append, List.sum_append]
    simp
/-- the sum of what is open, by numbers of requests -/
def sumO (l : List (Int × Int)) (t : List Rq) (k : Nat) : Int := ((openD l k).map fun r => t.getD r.toNat rqZ0 8).sum
theorem range_sum (g : Int × Int → Int) (l : List (Int × Int)) (h : Nat → Int) : ∀ k, k ≤ l.length → (∀ i s, i < k → l[i]? = some s → h i = g s) → ((List.range k).map h).sum = ((l.take k).map g).sum
  | 0, _, _ => by simp
  | k + 1, hk, he => by
    have hlt : k < l.length := by omega
    rw [List.range_succ, List.take_succ_eq_append_getElem hlt, List.map_append, List.map_append, List.sum_append, List.sum_append, range_sum g l h k (by omega) (fun i s hi => he i s (by omega)), List.map_cons, List.map_cons, he k l[k] (by omega) (List.getElem?_eq_getElem hlt)]
    rfl
theorem okq_of {l : List (Int × Int)} (h : chkP l = 0) : Okq l := fun _ _ hs => ok_at h hs
theorem sumO_eq {l : List (Int × Int)} (t : List Rq) (h : chkP l = 0) {k : Nat} (hk : k ≤ l.length) : sumO l t k = onK l t k := by
  have hq := okq_of h
  unfold sumO openD
  rw [opL_sum, range_sum (fun s => if s.2 = 0 ∧ (l.take k).count (s.1, 1) = 0 then t.getD s.1.toNat rqZ0 8 else 0) l _ k hk]
  · exact opS_eq (fun r => t.getD r.toNat rqZ0 8) l hq k hk
  · intro i s hi hs
    have e : l.getD i (0, 0) = s := by rw [List.getD_eq_getElem?_getD, hs]; rfl
    have := opT_iff hq hi hk hs
    rw [e]
    by_cases hc : s.2 = 0 ∧ (l.take k).count (s.1, 1) = 0
    · rw [if_pos (this.2 hc), if_pos hc]
    · rw [if_neg (fun h => hc (this.1 h)), if_neg hc]
end Go.Proofs.YtdmnoogppmckaaaGreat
namespace Go.Proofs.YtdmnoogppmckaaaGreat
open Go.RowKit

def prP (l : List (Int × Int)) (t : List Rq) : List Int × Int :=
  if toldP l t ≠ 0 then ([], toldP l t) else ((List.range l.length).map (fun i => onK l t (i + 1)), 0)
def PrPost (w : World) (R : List Int × Int) (e : Ending) (w' : World) : Prop := (∃ q d, e = .returned (.tuple #[.slice q R.1.length d, .int .i64 R.2]) ∧ R.1.length ≤ d ∧ Els w' q 1 (R.1.map inV)) ∧ Below w.heap.size w w'
theorem pr_none {w w' : World} {e : Int} (hb : Below w.heap.size w w') : PrPost w ([], e) (.returned (.tuple #[.slice none 0 0, .int .i64 e])) w' := ⟨⟨none, 0, rfl, Nat.le_refl _, els_nil _ _⟩, hb⟩
theorem kk_in {n i : Nat} (h : i < n) : ((i + 1 : Nat) : Int) = if 0 < (if (n : Int) < (i : Int) + 1 then (n : Int) else (i : Int) + 1) then (if (n : Int) < (i : Int) + 1 then (n : Int) else (i : Int) + 1) else 0 := by
  have e : ¬ ((n : Int) < (i : Int) + 1) := by omega
  rw [if_neg e, if_pos (by omega)]
  rfl
theorem sum_bd (f : Int → Int) : ∀ (Q : List Int) (m : Nat), (∀ r ∈ Q, 1 ≤ f r ∧ f r ≤ 1000) → 0 ≤ ((Q.take m).map f).sum ∧ ((Q.take m).map f).sum ≤ 1000 * (m : Int)
  | [], m, _ => by simp; omega
  | r :: Q, 0, _ => by simp
  | r :: Q, m + 1, h => by
    have h1 := h r (by simp)
    have h2 := sum_bd f Q m (fun x hx => h x (by simp [hx]))
    rw [List.take_succ_cons, List.map_cons, List.sum_cons]
    omega
theorem open_known {l : List (Int × Int)} {t : List Rq} (hk : knownS l t) {k : Nat} (hkl : k ≤ l.length) {r : Int} (hr : r ∈ openD l k) : ∃ n : Nat, r = n ∧ ∃ h : n < t.length, 1 ≤ t[n] 8 ∧ t[n] 8 ≤ 1000 := by
  obtain ⟨j, hj, e⟩ := opL_mem l k r k hr
  have hjl : j < l.length := by omega
  have hgd : l.getD j (0, 0) = l[j] := by rw [List.getD_eq_getElem?_getD, List.getElem?_eq_getElem hjl]; rfl
  rw [hgd] at e
  obtain ⟨_, n, h1, h2, h3⟩ := hk l[j] (List.getElem_mem hjl)
  exact ⟨n, e.trans h1, h2, h3⟩

set_option maxHeartbeats 4000000 in
set_option maxRecDepth 100000 in
theorem rprofile_calls (p p' : Option Addr) (c c' : Nat) (l : List (Int × Int)) (t : List Rq) (w : World) (hL : Els w p 2 (l.map stV)) (hc : l.length ≤ c ∧ c ≤ 9223372036854775807) (hT : Els w p' 10 (t.map rqV)) :
    Calls Tryz.prog 153 #[.slice p l.length c, .slice p' t.length c'] w (PrPost w (prP l t)) := by
  have hX : prP l t = if toldP l t ≠ 0 then ([], toldP l t) else ((List.range l.length).map (fun i => onK l t (i + 1)), 0) := rfl
  have ht := Lib.hid (rtold_calls p p' c c' l t w hL hc hT)
  have hz : toldP l t = 0 → chkP l = 0 ∧ knownS l t := toldP_zero
  generalize prP l t = X at hX ⊢
  generalize toldP l t = e0 at hX ht hz
  replace hX := Lib.hid hX
  replace hL := Lib.hid hL
  replace hT := Lib.hid hT
  replace hz := Lib.hid hz
  go_enter Tryz.func153, Tryz.ntmps153
  go_wp2_with fail
  refine ht.out.mono ?_
  rintro e w1 ⟨rfl, hb⟩
  clear ht
  by_cases c0 : e0 = 0
  · obtain ⟨hck, hkn⟩ := hz.out c0
    have hl16 := chkP_len hck
    obtain rfl : X = ((List.range l.length).map (fun i => onK l t (i + 1)), 0) := by rw [hX.out, if_neg (by simpa using c0)]
    have hsO := Lib.hid (fun k hk => sumO_eq (l := l) t hck (k := k) hk)
    have hon := Lib.hid (fun k (hk : k ≤ l.length) r hr => open_known hkn hk (r := r) hr)
    have hle := Lib.hid (fun k => opL_len l k k)
    clear hX hz hck hkn
    subst c0
    go_wp2_with fail
    go_loopw [7, 8] (fun v iv wr => ∃ i : Nat, i ≤ l.length ∧ iv = .int .i64 i ∧ wr.ownsRow w.heap.size 3 1 v i (((List.range i).map (fun i => onK l t (i + 1))).map inV).flatten ∧ Below w.heap.size w wr) (fun _ iv _ => l.length - (intOf iv).toNat)
    case atStart => exact ⟨0, Nat.zero_le _, rfl, World.ownsRow_nil _ _ _ _, hb⟩
    case round =>
      clear hb
      obtain ⟨i, hi, rfl, hown, hbr⟩ := hrel
      by_cases hlt : i < l.length
      · have hltI : (i : Int) < (l.length : Int) := by omega
        have s1 : IntKind.i64.wrap ((i : Int) + 1) = (i : Int) + 1 := IntWalk.i64_in _ (by omega)
        have hop := Lib.hid (ropen_calls p c l ((i : Int) + 1) (i + 1) wr (hL.out.below hbr) (by omega) (kk_in hlt))
        have hson := Lib.hid (hsO.out (i + 1) (by omega))
        have honi := Lib.hid (hon.out (i + 1) (by omega))
        have hlei := hle.out (i + 1)
        have hrs : Hid (((List.range (i + 1)).map (fun i => onK l t (i + 1))) = ((List.range i).map (fun i => onK l t (i + 1))) ++ [onK l t (i + 1)]) := Lib.hid (by rw [List.range_succ, List.map_append]; rfl)
        rw [← hson.out] at hrs
        unfold sumO at hrs
        clear hson
        change (openD l (i + 1)).length ≤ i + 1 at hlei
        generalize openD l (i + 1) = Q at *
        replace hown := Lib.hid hown
        go_wp2_with fail
        refine hop.out.mono ?_
        rintro e w2 ⟨⟨q, d, rfl, hqd, hQ⟩, hb2⟩
        replace hown := Lib.hid (own_below hown.out hb2)
        replace hb2 := hbr.trans (hb2.mono hbr.size)
        have hTb := Lib.hid (hT.out.below hb2)
        replace hQ := Lib.hid hQ
        replace hb2 := Lib.hid hb2
        have hsb := Lib.hid (fun m => sum_bd (fun r => t.getD r.toNat rqZ0 8) Q m (fun r hr => by
          obtain ⟨n, rfl, h1, h2⟩ := honi.out r hr
          rw [Int.toNat_natCast, getD_at t h1]
          exact h2))
        clear hop hbr
        go_wp2_with fail
        go_loopw [10, 11] (fun s10 s11 wx => wx = w2 ∧ ∃ m : Nat, m ≤ Q.length ∧ s11 = .int .i64 m ∧ s10 = .int .i64 ((Q.take m).map (fun r => t.getD r.toNat rqZ0 8)).sum) (fun _ s11 _ => Q.length - (intOf s11).toNat)
        case atStart => exact ⟨rfl, 0, Nat.zero_le _, rfl, by simp⟩
        case round =>
          obtain ⟨rfl, m, hm, rfl, rfl⟩ := hrel
          have hbm := hsb.out m
          by_cases hltm : m < Q.length
          · have hltM : (m : Int) < (Q.length : Int) := by omega
            have s2 : IntKind.i64.wrap ((m : Int) + 1) = (m : Int) + 1 := IntWalk.i64_in _ (by omega)
            obtain ⟨a, rfl⟩ := hQ.out.some_of (k := m) (by simpa using hltm)
            have hla := Lib.hid (in_at hQ.out hltm)
            obtain ⟨n, hn, h1, h2, h3⟩ := honi.out Q[m] (List.getElem_mem hltm)
            have hts : Hid (((Q.take (m + 1)).map (fun r => t.getD r.toNat rqZ0 8)).sum = ((Q.take m).map (fun r => t.getD r.toNat rqZ0 8)).sum + t[n] 8) := Lib.hid (by
              rw [List.take_succ_eq_append_getElem hltm, List.map_append, List.sum_append, hn]
              simp [List.getElem?_eq_getElem h1])
            rw [hn] at hla
            obtain ⟨b, rfl⟩ := hTb.out.some_of (k := n) (by simpa using h1)
            have hlb := hTb.out.cells b rfl n (rqV t[n]) 8 (.int .i64 (t[n] 8)) (by rw [List.getElem?_map, List.getElem?_eq_getElem h1]; rfl) rfl
            rw [← addr_add_add] at hlb
            replace hlb := Lib.hid (run_i64 hlb)
            generalize t[n] 8 = u at *
            generalize ((Q.take m).map (fun r => t.getD r.toNat rqZ0 8)).sum = S at *
            have s3 : IntKind.i64.wrap (S + u) = S + u := IntWalk.i64_in _ (by omega)
            clear hn
            go_wp2_with (first | (refine wpList_load_v rfl 3 _ rfl (a.add m) rfl _ hla.out ?_) | (refine wpList_load_v rfl 3 _ rfl ((b.add (n * 10)).add 8) rfl _ hlb.out ?_))
            go_roundw
            case rel => exact ⟨trivial, m + 1, by omega, by simp, by rw [hts.out]⟩
            case measure => simp [intOf]; omega
          · obtain rfl : m = Q.length := by omega
            rw [List.take_length] at *
            replace hsb := hsb.out Q.length
            rw [List.take_length] at hsb
            generalize (Q.map (fun r => t.getD r.toNat rqZ0 8)).sum = S at *
            have hownA := Lib.hid (own_mod hown.out ((Mod.refl (fun _ => False) _).alloc (.cells (inV S).toArray 3)) (fun _ _ h => h))
            have hbA := Lib.hid (hb2.out.alloc hb2.out.size (.cells (inV S).toArray 3))
            have hzA := Lib.hid hbA.out.size
            clear hown hb2 hQ hTb hsb hbm honi
            go_wp2_with (first | (refine wpList_bs1 rfl 55 1 0 _ rfl (.int .i64 S) rfl _ _ (rsl_in S _) ?_) |
              (refine wpList_appG in_el rfl _ _ rfl w.heap.size hzA.out _ _ _ rfl hownA.out (by omega) _ 1 1 (inV S) rfl rfl (by omega) (row_cells (Blk.new _ _ _)) (in_one _) ?_; intro v' w13 hown' hg'; have HO := Lib.hid hown'; have HB := Lib.hid (grown_low hbA.out (Nat.le_refl _) (Nat.le_refl _) hownA.out hg'); clear hown' hg' hownA hzA hbA))
            go_roundw
            case rel =>
              refine ⟨i + 1, by omega, by simp, ?_, HB.out⟩
              rw [hrs.out, List.map_append, List.flatten_append]
              simpa using HO.out
            case measure => simp [intOf]; omega
      · obtain rfl : i = l.length := by omega
        obtain ⟨q, m, d, rfl⟩ := own_isS hown
        have hEl := own_els (R := ((List.range l.length).map (fun i => onK l t (i + 1))).map inV) (inV_len _) (by simpa using hown) (by simp; omega)
        simp only [List.length_map, List.length_range] at hEl
        obtain ⟨h1, rfl, h3, h4⟩ := hEl
        have hln : ((List.range l.length).map (fun i => onK l t (i + 1))).length = l.length := by simp
        replace hln := Lib.hid hln
        replace h1 := Lib.hid h1
        replace hbr := Lib.hid hbr
        clear hown h4
        go_wp2_with fail
        go_ret2
        exact ⟨⟨q, d, by rw [hln.out]; rfl, by rw [hln.out]; exact h3, h1.out⟩, hbr.out⟩
  · obtain rfl : X = ([], e0) := by rw [hX.out, if_pos c0]
    have d1 : (e0 == 0) = false := beq_eq_false_iff_ne.2 c0
    have d2 : (e0 != 0) = true := by rw [bne, d1]; rfl
    clear hX hz
    go_wp2_with fail
    go_ret2
    exact pr_none hb

set_option maxHeartbeats 4000000 in
set_option maxRecDepth 100000 in
theorem rfits_calls (x y cp st en : Int) (p p' : Option Addr) (c c' : Nat) (l : List (Int × Int)) (t : List Rq) (w : World) (hL : Els w p 2 (l.map stV)) (hc : l.length ≤ c ∧ c ≤ 9223372036854775807) (hT : Els w p' 10 (t.map rqV)) :
    Calls Tryz.prog 143 #[.agg #[.int .i64 x, .int .i64 y, .int .i64 cp, .int .i64 st, .int .i64 en], .slice p l.length c, .slice p' t.length c'] w fun e w' =>
      e = .returned (.tuple #[.int .i64 (fitP x y cp st en l t).1, .int .i64 (fitP x y cp st en l t).2]) ∧ Below w.heap.size w w' := by
  have hX : fitP x y cp st en l t = if vehCode x y cp st en ≠ 0 then (-1, vehCode x y cp st en) else if toldP l t ≠ 0 then (-1, toldP l t) else match fullAt cp l t with | some k => ((k : Int), 10) | none => (-1, 0) := rfl
  have hv := Lib.hid (fun w => vehicle_ref x y cp st en w)
  have hpr := Lib.hid (fun wx (h : Below w.heap.size w wx) => rprofile_calls p p' c c' l t wx (hL.below h) hc (hT.below h))
  have hR : prP l t = if toldP l t ≠ 0 then ([], toldP l t) else ((List.range l.length).map (fun i => onK l t (i + 1)), 0) := rfl
  have hz : toldP l t = 0 → l.length ≤ 16 := fun h => chkP_len (toldP_zero h).1
  have hfs := Lib.hid (fun k => fullAt_some (cp := cp) (l := l) (t := t) (k := k))
  have hfn := Lib.hid (fullAt_none (cp := cp) (l := l) (t := t))
  have hle : (prP l t).1.length ≤ 16 ∧ (toldP l t ≠ 0 → (prP l t).1 = [] ∧ (prP l t).2 = toldP l t) := by
    rw [hR]
    by_cases h : toldP l t = 0
    · rw [if_neg (by simpa using h)]; exact ⟨by simpa using hz h, fun h2 => absurd h h2⟩
    · rw [if_pos h]; exact ⟨by simp, fun _ => ⟨rfl, rfl⟩⟩
  have hval : toldP l t = 0 → (prP l t).2 = 0 ∧ (prP l t).1.length = l.length ∧ ∀ k v, (prP l t).1[k]? = some v → v = onK l t (k + 1) := by
    intro h
    rw [hR, if_neg (by simpa using h)]
    refine ⟨rfl, by simp, fun k v hv => ?_⟩
    simp only [List.getElem?_map, Option.map_eq_some_iff] at hv
    obtain ⟨j, hj, rfl⟩ := hv
    obtain ⟨_, rfl⟩ := List.getElem?_eq_some_iff.1 hj
    simp
  generalize fitP x y cp st en l t = X at hX ⊢
  generalize vehCode x y cp st en = ve at hX hv
  generalize prP l t = R at *
  generalize toldP l t = te at *
  clear hR hz
  replace hX := Lib.hid hX
  replace hval := Lib.hid hval
  obtain ⟨hle, hne⟩ := hle
  replace hne := Lib.hid hne
  clear hL hT
  have hB := (Blk.new w #[.int .i64 x, .int .i64 y, .int .i64 cp, .int .i64 st, .int .i64 en] 53)
  have hlv1 := Lib.hid (run_load_row' (P := Tryz.prog) _ w.heap.size 53 #[.int .i64 x, .int .i64 y, .int .i64 cp, .int .i64 st, .int .i64 en] 53 _ hB Tryz.underlying53 rfl (by kernel_rfl))
  replace hB := Lib.hid hB
  have hb0 := Lib.hid (new_below w (.cells #[.int .i64 x, .int .i64 y, .int .i64 cp, .int .i64 st, .int .i64 en] 53))
  go_enter Tryz.func143, Tryz.ntmps143
  go_wp2_with (refine wpList_load_v rfl 53 _ rfl ⟨w.heap.size, 0, none⟩ rfl _ hlv1.out ?_)
  refine (hv.out _).mono ?_
  rintro e w1 ⟨rfl, hb1⟩
  have hB1 := Lib.hid (hB.out.mod ((Mod.refl (fun _ => False) _).after hb1) (fun h => h))
  replace hb1 := Lib.hid (hb0.out.trans (hb1.mono hb0.out.size))
  clear hlv1 hB hb0 hv
  by_cases v0 : ve = 0
  · subst v0
    go_wp2_with fail
    refine (hpr.out _ hb1.out).mono ?_
    rintro e w2 ⟨⟨q, d, rfl, hqd, hQ⟩, hb2⟩
    have hB2 := hB1.out.mod ((Mod.refl (fun _ => False) _).after hb2) (fun h => h)
    replace hb2 := Lib.hid (hb1.out.trans (hb2.mono hb1.out.size))
    replace hQ := Lib.hid hQ
    clear hpr hB1 hb1
    have kcp := hB2.cell (i := 2) rfl
    replace hB2 := Lib.hid hB2
    go_wp2_with fail
    go_loopw [10] (fun iv wx => ∃ k n : Nat, wx = w2.drewN n ∧ k ≤ R.1.length ∧ iv = .int .i64 k ∧ Hid (∀ j v, j < k → R.1[j]? = some v → ¬ cp < v)) (fun iv _ => R.1.length - (intOf iv).toNat)
    case atStart => exact ⟨0, 0, rfl, Nat.zero_le _, rfl, Lib.hid (fun j v h => by omega)⟩
    case round =>
      obtain ⟨k, n, rfl, hk, rfl, hno⟩ := hrel
      by_cases hlt : k < R.1.length
      · have hltI : (k : Int) < (R.1.length : Int) := by omega
        have s1 : IntKind.i64.wrap ((k : Int) + 1) = (k : Int) + 1 := IntWalk.i64_in _ (by omega)
        have hk0 : (0 : Int) ≤ (k : Int) := by omega
        obtain ⟨a, rfl⟩ := hQ.out.some_of (k := k) (by simpa using hlt)
        have hla := hQ.out.cells a rfl k (inV R.1[k]) 0 (.int .i64 R.1[k]) (by rw [List.getElem?_map, List.getElem?_eq_getElem hlt]; rfl) rfl
        rw [Nat.mul_one, Nat.add_zero] at hla
        have hvk : R.1[k]? = some R.1[k] := List.getElem?_eq_getElem hlt
        generalize R.1[k] = v at *
        by_cases hcv : cp < v
        · have hX2 : Hid (X = ((k : Int), 10)) := Lib.hid (by
            by_cases ht : te = 0
            · obtain ⟨h2, h3, h4⟩ := hval.out ht
              rw [hX.out, if_neg (by simp), if_neg (by simpa using ht), hfs.out k (by omega) (by rw [← h4 k v hvk]; exact hcv) (fun j hj => by
                have hjl : j < R.1.length := by omega
                rw [← h4 j _ (List.getElem?_eq_getElem hjl)]
                exact Int.not_lt.1 (hno.out j _ hj (List.getElem?_eq_getElem hjl)))]
            · rw [(hne.out ht).1] at hlt
              simp at hlt)
          clear hX hno hval hne hvk hfs hfn
          go_upto_region 8 with fail
          refine wp_region_quiet_lit (by kernel_rfl) (by kernel_rfl) ?_
          repeat (go_big_quiet_step (fail))
          refine wpQuiet_nil ?_
          rintro _ ⟨j, rfl⟩
          rw [World.drewN_drewN]
          go_wp2_with fail
          go_ret2
          exact ⟨by rw [hX2.out]; rfl, hb2.out.trans ((below_drewN (Below.refl _ _) _).mono hb2.out.size)⟩
        · have hno2 : Hid (∀ j u, j < k + 1 → R.1[j]? = some u → ¬ cp < u) := Lib.hid (fun j u hj hu => by
            by_cases e : j = k
            · subst e; rw [hvk] at hu; cases hu; exact hcv
            · exact hno.out j u (by omega) hu)
          clear hno hvk
          go_upto_region 8 with fail
          refine wp_region_quiet_lit (by kernel_rfl) (by kernel_rfl) ?_
          repeat (go_big_quiet_step (fail))
          refine wpQuiet_nil ?_
          rintro _ ⟨j, rfl⟩
          rw [World.drewN_drewN]
          go_wp2_with fail
          go_roundw
          case rel => exact ⟨k + 1, _, rfl, by omega, by simp, hno2⟩
          case measure => simp [intOf]; omega
      · obtain rfl : k = R.1.length := by omega
        have hX2 : Hid (X = (-1, R.2)) := Lib.hid (by
          by_cases ht : te = 0
          · obtain ⟨h2, h3, h4⟩ := hval.out ht
            rw [hX.out, if_neg (by simp), if_neg (by simpa using ht), hfn.out (fun j hj => by
              have hjl : j < R.1.length := by omega
              rw [← h4 j _ (List.getElem?_eq_getElem hjl)]
              exact Int.not_lt.1 (hno.out j _ hjl (List.getElem?_eq_getElem hjl))), h2]
          · rw [hX.out, if_neg (by simp), if_pos ht, (hne.out ht).2])
        clear hX hno hval hne hfs hfn
        go_wp2_with fail
        go_ret2
        exact ⟨by rw [hX2.out]; rfl, hb2.out.trans ((below_drewN (Below.refl _ _) _).mono hb2.out.size)⟩
  · obtain rfl : X = (-1, ve) := by rw [hX.out, if_pos v0]
    have d1 : (ve == 0) = false := beq_eq_false_iff_ne.2 v0
    have d2 : (ve != 0) = true := by rw [bne, d1]; rfl
    clear hX hval hne hfs hfn hpr hB1
    go_wp2_with fail
    go_ret2
    exact ⟨rfl, hb1.out⟩
end Go.Proofs.YtdmnoogppmckaaaGreat
