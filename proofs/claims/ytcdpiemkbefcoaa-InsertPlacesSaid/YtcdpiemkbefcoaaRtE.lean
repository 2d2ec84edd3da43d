/-
  What is a route: the program's way and the document's are one. Plain.
-/
import Derived.Test.YtcdpiemkbefcoaaRtD
namespace Go.Proofs.Ytcdpiemkbefcoaa

theorem lookM_put (M : Pairs) (k : Int) (v : Int × Int) (r : Int) : lookM (putM M k v) r = if r = k then v else lookM M r := by
  induction M with
  | nil =>
    unfold putM lookM
    by_cases e : r = k
    · subst e; simp
    · rw [if_neg (fun h => e h.symm), if_neg e]; rfl
  | cons x m ih =>
    unfold putM
    by_cases e : x.1 = k
    · rw [if_pos e]
      unfold lookM
      by_cases h : r = k
      · subst h; simp
      · rw [if_neg (fun h' => h h'.symm), if_neg h, if_neg (fun h' => h (h'.symm.trans e))]
    · rw [if_neg e]
      unfold lookM
      by_cases h : x.1 = r
      · rw [if_pos h, if_pos h, if_neg (fun h' => e (h.trans h'))]
      · rw [if_neg h, if_neg h, ih]
theorem put_mem (M : Pairs) (k : Int) (v : Int × Int) (x : Int) : x ∈ (putM M k v).map (·.1) ↔ x = k ∨ x ∈ M.map (·.1) := by
  induction M with
  | nil => simp [putM]
  | cons y m ih =>
    unfold putM
    by_cases e : y.1 = k
    · rw [if_pos e]
      simp only [List.map_cons, List.mem_cons]
      constructor
      · rintro (h | h)
        · exact .inl h
        · exact .inr (.inr h)
      · rintro (h | h | h)
        · exact .inl h
        · exact .inl (h.trans e)
        · exact .inr h
    · rw [if_neg e]
      simp only [List.map_cons, List.mem_cons, ih]
      constructor
      · rintro (h | h | h)
        · exact .inr (.inl h)
        · exact .inl h
        · exact .inr (.inr h)
      · rintro (h | h | h)
        · exact .inr (.inl h)
        · exact .inl h
        · exact .inr (.inr h)
theorem put_nodup (M : Pairs) (k : Int) (v : Int × Int) (h : (M.map (·.1)).Nodup) : ((putM M k v).map (·.1)).Nodup := by
  induction M with
  | nil => simp [putM]
  | cons y m ih =>
    rw [List.map_cons, List.nodup_cons] at h
    unfold putM
    by_cases e : y.1 = k
    · rw [if_pos e, List.map_cons, List.nodup_cons]
      exact ⟨by rw [← e]; exact h.1, h.2⟩
    · rw [if_neg e, List.map_cons, List.nodup_cons]
      refine ⟨fun hm => ?_, ih h.2⟩
      rcases (put_mem m k v y.1).1 hm with h1 | h1
      · exact e h1
      · exact h.1 h1
theorem look_mem (M : Pairs) (h : (M.map (·.1)).Nodup) (x : Int × Int × Int) (hx : x ∈ M) : lookM M x.1 = x.2 := by
  induction M with
  | nil => cases hx
  | cons y m ih =>
    rw [List.map_cons, List.nodup_cons] at h
    unfold lookM
    rcases List.mem_cons.1 hx with rfl | hm
    · rw [if_pos rfl]
    · rw [if_neg (fun e => h.1 (by rw [e]; exact List.mem_map.2 ⟨x, hm, rfl⟩))]
      exact ih h.2 hm
theorem look_out (M : Pairs) (r : Int) (h : r ∉ M.map (·.1)) : lookM M r = (0, 0) := by
  induction M with
  | nil => rfl
  | cons y m ih =>
    rw [List.map_cons, List.mem_cons] at h
    unfold lookM
    rw [if_neg (fun e => h (.inl e.symm))]
    exact ih (fun hm => h (.inr hm))
theorem unB_iff (M : Pairs) (h : (M.map (·.1)).Nodup) : unB M = false ↔ ∀ r, (lookM M r).1 = (lookM M r).2 := by
  unfold unB
  rw [List.any_eq_false]
  constructor
  · intro ha r
    by_cases hr : r ∈ M.map (·.1)
    · obtain ⟨x, hx, rfl⟩ := List.mem_map.1 hr
      rw [look_mem M h x hx]
      simpa using ha x hx
    · rw [look_out M r hr]
  · intro ha x hx
    have := ha x.1
    rw [look_mem M h x hx] at this
    simpa using this
/-- the map tells what was seen -/
def StM (M : Pairs) (q : List (Int × Int)) : Prop := (M.map (·.1)).Nodup ∧ ∀ r, lookM M r = (((q.count (r, 0) : Nat) : Int), ((q.count (r, 1) : Nat) : Int))
/-- may a stop come behind those? -/
def okAt (q : List (Int × Int)) (s : Int × Int) : Prop :=
  0 ≤ s.1 ∧ ((s.2 = 0 ∧ q.count (s.1, 0) = 0 ∧ q.count (s.1, 1) = 0) ∨ (s.2 = 1 ∧ q.count (s.1, 0) = 1 ∧ q.count (s.1, 1) = 0))
theorem count_snoc (q : List (Int × Int)) (s x : Int × Int) : (q ++ [s]).count x = q.count x + if s = x then 1 else 0 := by
  rw [List.count_append, List.count_singleton]
  simp only [beq_iff_eq]
theorem step_ok {M : Pairs} {q : List (Int × Int)} {s : Int × Int} (hS : StM M q) (h : okAt q s) : ∃ M', chStep M s = some M' ∧ StM M' (q ++ [s]) := by
  obtain ⟨r, k⟩ := s
  obtain ⟨h0, h1⟩ := h
  simp only at h0 h1
  have hl := hS.2 r
  unfold chStep
  simp only
  rw [if_neg (by omega)]
  rcases h1 with ⟨rfl, c0, c1⟩ | ⟨rfl, c0, c1⟩
  · rw [c0, c1] at hl
    rw [if_pos ⟨rfl, hl⟩]
    refine ⟨_, rfl, put_nodup _ _ _ hS.1, fun x => ?_⟩
    rw [lookM_put, count_snoc, count_snoc]
    by_cases e : x = r
    · subst e; simp [c0, c1]
    · rw [if_neg e, hS.2 x, if_neg (fun h => e (by simpa using (congrArg Prod.fst h).symm)), if_neg (fun h => e (by simpa using (congrArg Prod.fst h).symm))]; rfl
  · rw [c0, c1] at hl
    rw [if_neg (fun h => absurd h.1 (by decide)), if_pos ⟨rfl, hl⟩]
    refine ⟨_, rfl, put_nodup _ _ _ hS.1, fun x => ?_⟩
    rw [lookM_put, count_snoc, count_snoc]
    by_cases e : x = r
    · subst e; simp [c0, c1]
    · rw [if_neg e, hS.2 x, if_neg (fun h => e (by simpa using (congrArg Prod.fst h).symm)), if_neg (fun h => e (by simpa using (congrArg Prod.fst h).symm))]; rfl
theorem step_no {M : Pairs} {q : List (Int × Int)} {s : Int × Int} (hS : StM M q) (h : ¬ okAt q s) : chStep M s = none := by
  obtain ⟨r, k⟩ := s
  have hl := hS.2 r
  unfold okAt at h
  simp only at h
  unfold chStep
  simp only
  by_cases c0 : r < 0
  · rw [if_pos c0]
  · rw [if_neg c0, if_neg, if_neg]
    · rintro ⟨rfl, hv⟩
      rw [hl] at hv
      have h1 := congrArg Prod.fst hv
      have h2 := congrArg Prod.snd hv
      simp only at h1 h2
      exact h ⟨by omega, .inr ⟨rfl, by omega, by omega⟩⟩
    · rintro ⟨rfl, hv⟩
      rw [hl] at hv
      have h1 := congrArg Prod.fst hv
      have h2 := congrArg Prod.snd hv
      simp only at h1 h2
      exact h ⟨by omega, .inl ⟨rfl, by omega, by omega⟩⟩
theorem run_ok : ∀ (rest q : List (Int × Int)) (M : Pairs), StM M q → (∀ j s, rest[j]? = some s → okAt (q ++ rest.take j) s) → (chRun rest M).2 = true ∧ StM (chRun rest M).1 (q ++ rest)
  | [], q, M, hS, _ => ⟨rfl, by rw [List.append_nil]; exact hS⟩
  | s :: rest, q, M, hS, h => by
    have h0 := h 0 s rfl
    rw [List.take_zero, List.append_nil] at h0
    obtain ⟨M', h1, h2⟩ := step_ok hS h0
    unfold chRun
    rw [h1]
    have := run_ok rest (q ++ [s]) M' h2 (fun j t ht => by
      have := h (j + 1) t (by simpa using ht)
      simpa using this)
    simpa using this
theorem run_no : ∀ (rest q : List (Int × Int)) (M : Pairs), StM M q → (chRun rest M).2 = true → ∀ j s, rest[j]? = some s → okAt (q ++ rest.take j) s
  | [], q, M, _, _, j, s, hj => by simp at hj
  | t :: rest, q, M, hS, h, j, s, hj => by
    unfold chRun at h
    by_cases ho : okAt q t
    · obtain ⟨M', h1, h2⟩ := step_ok hS ho
      rw [h1] at h
      cases j with
      | zero =>
        simp only [List.getElem?_cons_zero, Option.some.injEq] at hj
        subst hj
        simpa using ho
      | succ j =>
        have := run_no rest (q ++ [t]) M' h2 h j s (by simpa using hj)
        simpa using this
    · rw [step_no hS ho] at h
      cases h
theorem nil_st : StM [] [] := ⟨List.nodup_nil, fun _ => rfl⟩
theorem chkP_zero (l : List (Int × Int)) (h16 : ¬ 16 < l.length) : chkP l = 0 ↔ (∀ j s, l[j]? = some s → okAt (l.take j) s) ∧ ∀ r, l.count (r, 0) = l.count (r, 1) := by
  unfold chkP
  rw [if_neg h16]
  constructor
  · intro h
    by_cases h2 : (chRun l []).2 = true
    · rw [if_pos h2] at h
      have ho := run_no l [] [] nil_st h2
      simp only [List.nil_append] at ho
      refine ⟨ho, fun r => ?_⟩
      have hs := (run_ok l [] [] nil_st (by simpa using ho)).2
      rw [List.nil_append] at hs
      have hu : unB (chRun l []).1 = false := by
        cases hb : unB (chRun l []).1 with
        | false => rfl
        | true => rw [hb] at h; simp at h
      have := (unB_iff _ hs.1).1 hu r
      rw [hs.2 r] at this
      exact Int.ofNat_inj.1 this
    · rw [if_neg h2] at h; cases h
  · rintro ⟨ho, hc⟩
    obtain ⟨h2, hs⟩ := run_ok l [] [] nil_st (by simpa using ho)
    rw [List.nil_append] at hs
    rw [if_pos h2]
    have hu : unB (chRun l []).1 = false := (unB_iff _ hs.1).2 (fun r => by rw [hs.2 r]; simp [hc r])
    rw [hu]
    rfl
theorem chkP_some (l : List (Int × Int)) (h16 : ¬ 16 < l.length) : chkP l = 0 ∨ chkP l = 8 := by
  unfold chkP
  rw [if_neg h16]
  split
  · split
    · exact .inr rfl
    · exact .inl rfl
  · exact .inr rfl
theorem count_take_succ (l : List (Int × Int)) (n : Nat) (h : n < l.length) (x : Int × Int) : (l.take (n + 1)).count x = (l.take n).count x + if l[n] = x then 1 else 0 := by
  rw [List.take_succ_eq_append_getElem h, count_snoc]
theorem count_take_le (l : List (Int × Int)) (m n : Nat) (h : m ≤ n) (x : Int × Int) : (l.take m).count x ≤ (l.take n).count x := by
  rw [show l.take m = (l.take n).take m by rw [List.take_take, Nat.min_eq_left h]]
  exact List.Sublist.count_le x (List.take_sublist m _)
theorem count_at (l : List (Int × Int)) (k : Nat) (s : Int × Int) (h : l[k]? = some s) : (l.take k).count s + 1 ≤ l.count s := by
  obtain ⟨hk, he⟩ := List.getElem?_eq_some_iff.1 h
  have h1 := count_take_succ l k hk s
  rw [if_pos he] at h1
  have h2 := count_take_le l (k + 1) l.length (by omega) s
  rw [List.take_length] at h2
  omega
theorem okAt_iff (l : List (Int × Int)) : ((∀ j s, l[j]? = some s → okAt (l.take j) s) ∧ ∀ r, l.count (r, 0) = l.count (r, 1)) ↔ ∀ k s, l[k]? = some s → ¬ badS l k s := by
  constructor
  · rintro ⟨ho, hc⟩ k s hk hb
    obtain ⟨r, q⟩ := s
    have inv : ∀ n, n ≤ l.length → (l.take n).count (r, 0) ≤ 1 ∧ (l.take n).count (r, 1) ≤ (l.take n).count (r, 0) := by
      intro n
      induction n with
      | zero => intro _; simp
      | succ n ih =>
        intro hn
        have ih := ih (by omega)
        have hn' : n < l.length := by omega
        have hon := ho n l[n] (List.getElem?_eq_getElem hn')
        rw [count_take_succ l n hn', count_take_succ l n hn']
        by_cases e0 : l[n] = (r, 0)
        · rw [e0] at hon
          obtain ⟨_, h | h⟩ := hon
          · have a := h.2.1; have b := h.2.2
            simp only at a b
            rw [if_pos e0, if_neg (by rw [e0]; simp)]
            omega
          · exact absurd h.1 (by simp)
        · by_cases e1 : l[n] = (r, 1)
          · rw [e1] at hon
            obtain ⟨_, h | h⟩ := hon
            · exact absurd h.1 (by simp)
            · have a := h.2.1; have b := h.2.2
              simp only at a b
              rw [if_neg e0, if_pos e1]
              omega
          · rw [if_neg e0, if_neg e1]; omega
    have hall := inv l.length (Nat.le_refl _)
    rw [List.take_length] at hall
    have hok := ho k (r, q) hk
    have hpos := count_at l k (r, q) hk
    have hcr := hc r
    obtain ⟨h0, h1⟩ := hok
    simp only at h0 h1
    unfold badS at hb
    simp only at hb
    rcases h1 with ⟨rfl, a, b⟩ | ⟨rfl, a, b⟩
    · rcases hb with h | h | h | h | h | h
      · omega
      · omega
      · omega
      · omega
      · omega
      · exact absurd h.1 (by decide)
    · rcases hb with h | h | h | h | h | h
      · omega
      · omega
      · omega
      · omega
      · omega
      · exact h.2 a
  · intro hg
    have good : ∀ k s, l[k]? = some s → 0 ≤ s.1 ∧ (s.2 = 0 ∨ s.2 = 1) ∧ l.count (s.1, 0) = 1 ∧ l.count (s.1, 1) = 1 ∧ (s.2 = 1 → (l.take k).count (s.1, 0) = 1) := by
      intro k s hk
      have := hg k s hk
      unfold badS at this
      simp only [not_or, not_and, Decidable.not_not, Int.not_lt, Int.not_le] at this
      obtain ⟨h1, h2, h3, h4, h5, h6⟩ := this
      exact ⟨h1, by omega, h4, h5, h6⟩
    refine ⟨fun k s hk => ?_, fun r => ?_⟩
    · obtain ⟨r, q⟩ := s
      obtain ⟨h1, h2, h3, h4, h5⟩ := good k (r, q) hk
      simp only at h1 h2 h3 h4 h5
      have hpos := count_at l k (r, q) hk
      refine ⟨h1, ?_⟩
      simp only
      rcases h2 with rfl | rfl
      · refine .inl ⟨rfl, by omega, ?_⟩
        rcases Nat.eq_zero_or_pos ((l.take k).count (r, 1)) with h | h
        · exact h
        · exfalso
          have hm : (r, (1 : Int)) ∈ l.take k := List.count_pos_iff.1 h
          obtain ⟨j, hj, he⟩ := List.getElem_of_mem hm
          have hjk : j < k := by rw [List.length_take] at hj; omega
          have hlj : l[j]? = some (r, 1) := by
            have : (l.take k)[j]? = some (r, 1) := by rw [List.getElem?_eq_getElem hj, he]
            rwa [List.getElem?_take_of_lt hjk] at this
          have h6 := (good j (r, 1) hlj).2.2.2.2 rfl
          have h7 := count_take_le l j k (by omega) (r, 0)
          simp only at h6
          omega
      · exact .inr ⟨rfl, h5 rfl, by omega⟩
    · by_cases h0 : (r, (0 : Int)) ∈ l
      · obtain ⟨j, hj, he⟩ := List.getElem_of_mem h0
        have := good j (r, 0) (by rw [List.getElem?_eq_getElem hj, he])
        simp only at this
        omega
      · by_cases h1 : (r, (1 : Int)) ∈ l
        · obtain ⟨j, hj, he⟩ := List.getElem_of_mem h1
          have := good j (r, 1) (by rw [List.getElem?_eq_getElem hj, he])
          simp only at this
          omega
        · rw [List.count_eq_zero_of_not_mem h0, List.count_eq_zero_of_not_mem h1]
theorem chk_one (l : List (Int × Int)) : chkD l = chkP l := by
  by_cases h16 : 16 < l.length
  · unfold chkD chkP
    rw [if_pos h16, if_pos h16]
  · have h1 := chkP_zero l h16
    rw [okAt_iff] at h1
    unfold chkD
    rw [if_neg h16]
    split
    · rename_i h
      rcases chkP_some l h16 with h2 | h2
      · obtain ⟨k, s, hk, hb⟩ := h
        exact absurd hb (h1.1 h2 k s hk)
      · exact h2.symm
    · rename_i h
      exact (h1.2 (fun k s hk hb => h ⟨k, s, hk, hb⟩)).symm
end Go.Proofs.Ytcdpiemkbefcoaa
