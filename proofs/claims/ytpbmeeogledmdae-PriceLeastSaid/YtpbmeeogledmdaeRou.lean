/-
  What is a route: of each request there is nothing, or its Pick and then its Drop. With one request more, and less. Plain.
-/
import Derived.Test.YtpbmeeogledmdaeRm
namespace Go.Proofs.Ytpbmeeogledmdae

/-- a stop more, at a place -/
def insS (l : List (Int × Int)) (k : Nat) (s : Int × Int) : List (Int × Int) := l.take k ++ s :: l.drop k
/-- the stops of a request -/
def sub (l : List (Int × Int)) (r : Int) : List (Int × Int) := l.filter fun s => s.1 == r
theorem sub_append (a b : List (Int × Int)) (r : Int) : sub (a ++ b) r = sub a r ++ sub b r := List.filter_append _ _
theorem sub_one (s : Int × Int) (r : Int) : sub [s] r = if s.1 = r then [s] else [] := by
  unfold sub
  by_cases h : s.1 = r <;> simp [h]
theorem sub_count (l : List (Int × Int)) (r k : Int) : l.count (r, k) = (sub l r).count (r, k) := by
  unfold sub
  rw [List.count_filter (by simp)]
def pd (r : Int) : List (Int × Int) := [(r, 0), (r, 1)]
theorem cnt_nil (r k : Int) : ([] : List (Int × Int)).count (r, k) = 0 := rfl
theorem okq_sub {l : List (Int × Int)} (h : Okq l) (r : Int) : ∀ j, j ≤ l.length → sub (l.take j) r = [] ∨ (0 ≤ r ∧ (sub (l.take j) r = [(r, 0)] ∨ sub (l.take j) r = pd r))
  | 0, _ => .inl rfl
  | j + 1, hj => by
    have hlt : j < l.length := by omega
    have ih := okq_sub h r j (by omega)
    have hok := h j l[j] (List.getElem?_eq_getElem hlt)
    rw [List.take_succ_eq_append_getElem hlt, sub_append, sub_one]
    by_cases hr : l[j].1 = r
    · rw [if_pos hr]
      generalize l[j] = s at *
      obtain ⟨s1, s2⟩ := s
      dsimp only at hr
      subst hr
      unfold okAt at hok
      dsimp only at hok
      rw [sub_count _ _ 0, sub_count _ _ 1] at hok
      rcases ih with e | ⟨hp, e | e⟩
      · rw [e] at hok ⊢
        rcases hok.2 with ⟨rfl, _⟩ | ⟨_, h1, _⟩
        · exact .inr ⟨hok.1, .inl rfl⟩
        · simp at h1
      · rw [e] at hok ⊢
        rcases hok.2 with ⟨_, h1, _⟩ | ⟨rfl, _⟩
        · simp at h1
        · exact .inr ⟨hok.1, .inr rfl⟩
      · rw [e] at hok
        unfold pd at hok
        rcases hok.2 with ⟨_, h1, _⟩ | ⟨_, _, h2⟩
        · simp at h1
        · simp at h2
    · rw [if_neg hr, List.append_nil]
      exact ih
theorem sub_split {l : List (Int × Int)} {j : Nat} {s : Int × Int} (h : l[j]? = some s) : sub l s.1 = sub (l.take j) s.1 ++ s :: sub (l.drop (j + 1)) s.1 := by
  obtain ⟨hlt, rfl⟩ := List.getElem?_eq_some_iff.1 h
  have e : l = l.take j ++ ([l[j]] ++ l.drop (j + 1)) := by
    rw [List.singleton_append, ← List.drop_eq_getElem_cons hlt, List.take_append_drop]
  rw [congrArg (fun l => sub l _) e]
  rw [sub_append, sub_append, sub_one, if_pos rfl]
  rfl
theorem route_iff (l : List (Int × Int)) : chkP l = 0 ↔ l.length ≤ 16 ∧ ∀ r, sub l r = [] ∨ (0 ≤ r ∧ sub l r = pd r) := by
  constructor
  · intro h
    have h16 := chkP_len h
    refine ⟨h16, fun r => ?_⟩
    have hq := okq_of h
    have hb := ((chkP_zero l (by omega)).1 h).2 r
    rcases okq_sub hq r l.length (Nat.le_refl _) with e | ⟨hp, e | e⟩
    · rw [List.take_length] at e; exact .inl e
    · rw [List.take_length] at e
      rw [sub_count, sub_count _ _ 1, e] at hb
      simp at hb
    · rw [List.take_length] at e; exact .inr ⟨hp, e⟩
  · rintro ⟨h16, hr⟩
    refine (chkP_zero l (by omega)).2 ⟨fun j s hs => ?_, fun r => ?_⟩
    · have hsp := sub_split hs
      unfold okAt
      rw [sub_count, sub_count _ _ 1]
      rcases hr s.1 with e | ⟨hp, e⟩
      · rw [e] at hsp; simp at hsp
      · rw [e] at hsp
        unfold pd at hsp
        refine ⟨hp, ?_⟩
        generalize sub (l.take j) s.1 = q at hsp ⊢
        match q with
        | [] =>
          simp at hsp
          refine .inl ⟨?_, rfl, rfl⟩
          rw [← hsp.1]
        | [a] =>
          simp at hsp
          obtain ⟨h1, h2, _⟩ := hsp
          refine .inr ⟨?_, ?_, ?_⟩
          · rw [← h2]
          · rw [← h1]; simp
          · rw [← h1]; simp
        | a :: b :: q => simp at hsp
    · rw [sub_count, sub_count _ _ 1]
      rcases hr r with e | ⟨_, e⟩
      · rw [e]; rfl
      · rw [e]; simp [pd]
/-- so many stops, and of each request nothing, or both -/
def Rou (l : List (Int × Int)) : Prop := ∀ r, sub l r = [] ∨ (0 ≤ r ∧ sub l r = pd r)
theorem sub_nil_iff (l : List (Int × Int)) (r : Int) : sub l r = [] ↔ ∀ s ∈ l, s.1 ≠ r := by
  unfold sub
  rw [List.filter_eq_nil_iff]
  simp
theorem rou_mem {l : List (Int × Int)} (h : Rou l) {s : Int × Int} (hs : s ∈ l) : 0 ≤ s.1 ∧ (s.2 = 0 ∨ s.2 = 1) ∧ sub l s.1 = pd s.1 := by
  have hm : s ∈ sub l s.1 := by unfold sub; rw [List.mem_filter]; exact ⟨hs, by simp⟩
  rcases h s.1 with e | ⟨hp, e⟩
  · rw [e] at hm; cases hm
  · refine ⟨hp, ?_, e⟩
    rw [e] at hm
    obtain ⟨a, b⟩ := s
    simp [pd] at hm
    exact hm
theorem sub_woP (l : List (Int × Int)) (req r : Int) : sub (woP l req) r = if r = req then [] else sub l r := by
  unfold sub woP
  rw [List.filter_filter]
  by_cases h : r = req
  · rw [if_pos h, List.filter_eq_nil_iff]
    intro s _
    simp [h]
  · rw [if_neg h]
    refine List.filter_congr fun s _ => ?_
    by_cases e : s.1 = r
    · simp [e, h]
    · simp [e]
theorem rou_woP {l : List (Int × Int)} (h : Rou l) (req : Int) : Rou (woP l req) := fun r => by
  rw [sub_woP]
  by_cases e : r = req
  · rw [if_pos e]; exact .inl rfl
  · rw [if_neg e]; exact h r
theorem sub_insS (l : List (Int × Int)) (k : Nat) (s : Int × Int) (r : Int) : sub (insS l k s) r = sub (l.take k) r ++ ((if s.1 = r then [s] else []) ++ sub (l.drop k) r) := by
  unfold insS
  rw [sub_append, show s :: l.drop k = [s] ++ l.drop k from rfl, sub_append, sub_one]
theorem sub_take_drop (l : List (Int × Int)) (k : Nat) (r : Int) : sub (l.take k) r ++ sub (l.drop k) r = sub l r := by
  rw [← sub_append, List.take_append_drop]
theorem insS_take_lt (l : List (Int × Int)) {k j : Nat} (s : Int × Int) (hk : k ≤ l.length) (h : k < j) : (insS l k s).take j = l.take k ++ s :: (l.drop k).take (j - k - 1) := by
  unfold insS
  rw [List.take_append, List.length_take, Nat.min_eq_left hk]
  rw [List.take_of_length_le (by simp; omega)]
  obtain ⟨d, rfl⟩ : ∃ d, j = k + 1 + d := ⟨j - k - 1, by omega⟩
  rw [show k + 1 + d - k = d + 1 by omega, List.take_succ_cons, Nat.add_sub_cancel]
theorem insS_drop_lt (l : List (Int × Int)) {k j : Nat} (s : Int × Int) (hk : k ≤ l.length) (h : k < j) : (insS l k s).drop j = (l.drop k).drop (j - k - 1) := by
  unfold insS
  rw [List.drop_append, List.length_take, Nat.min_eq_left hk]
  rw [List.drop_of_length_le (by simp; omega)]
  obtain ⟨d, rfl⟩ : ∃ d, j = k + 1 + d := ⟨j - k - 1, by omega⟩
  rw [show k + 1 + d - k = d + 1 by omega, List.drop_succ_cons, List.nil_append, Nat.add_sub_cancel]
theorem rou_ins {l : List (Int × Int)} (h : Rou l) {req : Int} (hr : 0 ≤ req) (hn : ∀ s ∈ l, s.1 ≠ req) {k j : Nat} (hk : k ≤ l.length) (hkj : k < j) : Rou (insS (insS l k (req, 0)) j (req, 1)) := fun r => by
  rw [sub_insS]
  by_cases e : req = r
  · subst e
    have h1 : sub (l.take k) req = [] := (sub_nil_iff _ _).2 fun s hs => hn s (List.mem_of_mem_take hs)
    have h2 : ∀ n, sub ((l.drop k).take n) req = [] := fun n => (sub_nil_iff _ _).2 fun s hs => hn s (List.mem_of_mem_drop (List.mem_of_mem_take hs))
    have h3 : ∀ n, sub ((l.drop k).drop n) req = [] := fun n => (sub_nil_iff _ _).2 fun s hs => hn s (List.mem_of_mem_drop (List.mem_of_mem_drop hs))
    rw [insS_take_lt l _ hk hkj, insS_drop_lt l _ hk hkj, sub_append, show ∀ q, (req, (0 : Int)) :: q = [(req, 0)] ++ q from fun _ => rfl, sub_append, sub_one, h1, h2, h3]
    simp only [if_true, List.nil_append, List.append_nil]
    exact .inr ⟨hr, rfl⟩
  · rw [if_neg e, List.nil_append, sub_take_drop, sub_insS, if_neg e, List.nil_append, sub_take_drop]
    exact h r
theorem withL_ins (l : List (Int × Int)) (req : Int) {i j : Nat} (hij : i ≤ j) (hj : j ≤ l.length) : withL l req i j = insS (insS l i (req, 0)) (j + 1) (req, 1) := by
  unfold withL
  show _ = (insS l i (req, 0)).take (j + 1) ++ (req, 1) :: (insS l i (req, 0)).drop (j + 1)
  rw [insS_take_lt l _ (by omega) (by omega), insS_drop_lt l _ (by omega) (by omega), show j + 1 - i - 1 = j - i by omega, List.drop_drop, show i + (j - i) = j by omega]
  simp
theorem insS_mem {l : List (Int × Int)} {k : Nat} {s x : Int × Int} : x ∈ insS l k s ↔ x = s ∨ x ∈ l := by
  unfold insS
  constructor
  · intro h
    rcases List.mem_append.1 h with h | h
    · exact .inr (List.mem_of_mem_take h)
    · rcases List.mem_cons.1 h with h | h
      · exact .inl h
      · exact .inr (List.mem_of_mem_drop h)
  · rintro (rfl | h)
    · simp
    · rw [← List.take_append_drop k l] at h
      rcases List.mem_append.1 h with h | h
      · exact List.mem_append_left _ h
      · exact List.mem_append_right _ (List.mem_cons_of_mem _ h)
theorem insS_sum (f : Int × Int → Int) (l : List (Int × Int)) (k : Nat) (s : Int × Int) : ((insS l k s).map f).sum = f s + (l.map f).sum := by
  have h := congrArg (fun l => (l.map f).sum) (List.take_append_drop k l)
  unfold insS
  simp only [List.map_append, List.sum_append, List.map_cons, List.sum_cons] at h ⊢
  omega
theorem woP_mem {l : List (Int × Int)} {req : Int} {s : Int × Int} : s ∈ woP l req ↔ s ∈ l ∧ s.1 ≠ req := by
  unfold woP
  rw [List.mem_filter]
  simp
theorem withP_some {l : List (Int × Int)} {req : Int} {i j : Nat} (hij : i ≤ j) (hj : j ≤ l.length) (hr : 0 ≤ req) (hn : ∀ s ∈ l, s.1 ≠ req) (hl : l.length ≤ 14) : withP l req i j = some (withL l req i j) := by
  have ha : ¬ l.any (fun s => s.1 == req) = true := by
    rw [List.any_eq_true]
    rintro ⟨s, hs, e⟩
    exact hn s hs (by simpa using e)
  unfold withP
  rw [if_neg (by simp only [not_or]; exact ⟨by omega, by omega, by omega, by omega, ha, by omega⟩), Int.toNat_natCast, Int.toNat_natCast]
end Go.Proofs.Ytpbmeeogledmdae
