/-
  Layer 8: LoadFlows: it returns true.
-/
import Derived.Test.YtaijimckbpplnaaLp
namespace Go.Proofs.Ytaijimckbpplnaa
open Go.RowKit

theorem own_base {w : World} {b b' : Nat} {e : TypeId} {n : Nat} {v : Value} {k : Nat} {xs : List Value} (h : w.ownsRow b e n v k xs) (hb : b' ≤ b) : w.ownsRow b' e n v k xs :=
  ⟨h.1, h.2.imp_right fun ⟨g, cap, cur, h1, h2, h3⟩ => ⟨g, cap, cur, h1, Nat.le_trans hb h2, h3⟩⟩
theorem own_lenF {w : World} {base : Nat} {E : TypeId} {n k c m : Nat} {p : Option Addr} {xs : List Value} (h : w.ownsRow base E n (.slice p k c) m xs) : k = m := by
  rcases h.2 with ⟨hv, h0⟩ | ⟨g, cap, cur, hv, _⟩
  · cases hv; exact h0.symm
  · cases hv; rfl
def lenV : Value → Nat
  | .slice _ n _ => n
  | _ => 0
theorem fill_flat (T : List Rq) (x : Int) (n : Nat) : ((T ++ List.replicate (n + 1) (rqLd x)).map rqV).flatten = ((T ++ List.replicate n (rqLd x)).map rqV).flatten ++ rqV (rqLd x) := by
  rw [List.replicate_succ', ← List.append_assoc, List.map_append, List.flatten_append]
  simp
theorem sgL_of (t : List Rq) (s : Int × Int) {n : Nat} (h : s.1 = n) (hn : n < t.length) (hk : s.2 = 0 ∨ s.2 = 1) : sgL t s = if s.2 = 0 then t[n] 8 else -(t[n] 8) := by
  unfold sgL
  rw [h, Int.toNat_natCast, getD_at t hn]
  rcases hk with h | h <;> rw [h] <;> simp
set_option maxHeartbeats 8000000 in
set_option maxRecDepth 100000 in
theorem flows_calls (p p' : Option Addr) (c c' : Nat) (ns B : List Int) (w : World) (hN : Els w p 1 ((ns.take 12).map u16V)) (hnb : ns.length ≤ 9223372036854775807) (hr : ∀ n ∈ ns, 0 ≤ n ∧ n < 65536)
    (hB : Els w p' 1 ((B.take 12).map u8C)) (hbb : B.length ≤ 9223372036854775807) (hbr : ∀ n ∈ B, 0 ≤ n ∧ n < 256) :
    Calls Try.prog 4 #[.slice p ns.length c, .slice p' B.length c'] w fun e w' => e = .returned (.bool true) ∧ Below w.heap.size w w' := by
  have hW := Lib.hid (fun w => works8_calls w)
  have hT0 := Lib.hid (fun wx (h : Below w.heap.size w wx) => table_calls p c ns wx (hN.below h) hnb hr)
  have hM0 := Lib.hid (fun wx (h : Below w.heap.size w wx) => made_calls p' c' B wx (hB.below h) hbb hbr)
  have hTl := tblP_len ns
  obtain ⟨ht6, ht12⟩ := tfP_len 3 ns
  have htm := tfP_mem (x := 3) (by omega) hr
  obtain ⟨hl12, hl2, hl3⟩ := mdP_ok B
  have htold : toldP (mdP B) (tfP 3 ns) = 0 := told_ok hl2 (by omega) (fun q hq => (htm q hq).1) (fun s hs => by have := hl3 s hs; omega)
  have hfill : Hid (tfP 3 ns = tblP ns ++ List.replicate (6 - (tblP ns).length) (rqLd 3)) := Lib.hid rfl
  clear hN hB hr hbr
  generalize tblP ns = T at *
  generalize tfP 3 ns = t at *
  generalize mdP B = l at *
  have hT12 : T.length ≤ 12 := by omega
  clear hTl
  have hpr := Lib.hid (prP_ok htold)
  obtain ⟨hck, hkn⟩ := toldP_zero htold
  have hend := Lib.hid (onK_end t hck)
  have hnn := Lib.hid (fun k (hk : k ≤ l.length) => onK_nonneg htold hk)
  have hle := Lib.hid (fun k (hk : k ≤ l.length) => onK_le htold hk)
  have hsO := Lib.hid (fun k hk => sumO_eq (l := l) t hck (k := k) hk)
  have hon := Lib.hid (fun k (hk : k ≤ l.length) r hr => open_known hkn hk (r := r) hr)
  have hol := Lib.hid (fun k => opL_len l k k)
  have hwf : Hid (∀ s ∈ l, wf64 s.1) := Lib.hid (fun s hs => by have := hl3 s hs; unfold wf64; omega)
  have hkd : Hid (∀ s ∈ l, (s.2 = 0 ∨ s.2 = 1) ∧ ∃ n : Nat, s.1 = n ∧ ∃ h : n < t.length, 1 ≤ t[n] 8 ∧ t[n] 8 ≤ 1000) := Lib.hid hkn
  clear htm hl2 hl3 htold hck hkn
  replace ht6 := Lib.hid ht6
  have hb0 := Lib.hid (Below.refl w.heap.size w)
  have r3 := Lib.hid (run_rqLd 3)
  go_enter Try.func4, Try.ntmps4
  go_wp2_with fail
  refine (hW.out _).mono ?_
  rintro e w1 ⟨rfl, hb1⟩
  go_wp2_with fail
  refine (hT0.out _ hb1).mono ?_
  rintro e w2 ⟨v, rfl, hO, hb2⟩
  replace hb2 := hb1.trans (hb2.mono hb1.size)
  replace hO := own_base hO hb1.size
  clear hb1 hT0 hW
  go_wp2_with fail
  go_loopw [5] (fun s5 wx => ∃ m : Nat, T.length ≤ m ∧ (m ≤ 6 ∨ m = T.length) ∧ wx.ownsRow w.heap.size 55 10 s5 m ((T ++ List.replicate (m - T.length) (rqLd 3)).map rqV).flatten ∧ Below w.heap.size w wx) (fun s5 _ => 6 - lenV s5)
  case atStart => exact ⟨T.length, Nat.le_refl _, .inr rfl, by simpa using hO, hb2⟩
  case round =>
    clear hO hb2
    obtain ⟨m, hm1, hm2, hO, hb⟩ := hrel
    obtain ⟨q, m', d, rfl⟩ := own_isS hO
    obtain rfl := own_lenF hO
    have hm0 : (0 : Int) ≤ (m' : Int) := by omega
    by_cases hlt : m' < 6
    · have hltI : (m' : Int) < 6 := by omega
      have hst := Lib.hid (fill_flat T 3 (m' - T.length))
      have hmm : Hid (m' + 1 - T.length = m' - T.length + 1) := Lib.hid (by omega)
      have hOA := Lib.hid (own_mod hO ((Mod.refl (fun _ => False) wr).alloc (.cells (rqV (rqLd 3)).toArray 55)) (fun _ _ h => h))
      have hzA := Lib.hid (show w.heap.size ≤ (wr.alloc (.cells (rqV (rqLd 3)).toArray 55)).heap.size by have := hb.size; simp; omega)
      have hbA := Lib.hid (hb.alloc hb.size (.cells (rqV (rqLd 3)).toArray 55))
      clear hO hb
      go_wp2_with (first | (refine wpList_build1_v rfl 55 4 _ rfl (.int .i64 3) rfl _ (r3.out _) ?_) |
        (refine wpList_bs1 rfl 33 1 0 _ rfl (.agg (rqV (rqLd 3)).toArray) rfl _ _ (rsl_rq _ _) ?_) |
        (refine wpList_appG rq_el rfl _ _ rfl w.heap.size hzA.out _ _ _ rfl hOA.out (by omega) ⟨wr.heap.size, 0, none⟩ 1 1 (rqV (rqLd 3)) rfl rfl (by omega) (row_cells (Blk.new wr _ _)) (rq_one _) ?_; intro v7 w7 hO7 hg7))
      have hb7 := Lib.hid (grown_low hbA.out (Nat.le_refl _) (Nat.le_refl _) hOA.out hg7)
      rw [← hst.out, ← hmm.out] at hO7
      replace hO7 := Lib.hid hO7
      clear hOA hzA hbA hg7
      go_roundw
      case rel => exact ⟨m' + 1, by omega, .inl (by omega), hO7.out, hb7.out⟩
      case measure =>
        obtain ⟨q7, m7, d7, rfl⟩ := own_isS hO7.out
        obtain rfl := own_lenF hO7.out
        simp [lenV]
        omega
    · have hlI : ¬ ((m' : Int) < 6) := by omega
      have e6 : m' - T.length = 6 - T.length := by omega
      rw [e6, ← hfill.out] at hO
      have hml : m' = t.length := by rw [hfill.out, List.length_append, List.length_replicate]; omega
      subst hml
      obtain ⟨hT, -, -, -⟩ := own_els (R := t.map rqV) (rqV_len _) (by simpa using hO) (by simp; omega)
      clear hO hfill e6 hm1 hm2 r3
      replace hT := Lib.hid hT
      go_wp2_with fail
      refine (hM0.out _ hb).mono ?_
      rintro e w3 ⟨⟨p3, d3, rfl, hd3, hL, -⟩, hb3⟩
      have hT3 := Lib.hid (hT.out.below hb3)
      replace hb3 := Lib.hid (hb.trans (hb3.mono hb.size))
      have hpf := Lib.hid (profile_calls p3 q d3 d l t w3 hL hT3.out)
      rw [hpr.out] at hpf
      unfold PrPost at hpf
      replace hL := Lib.hid hL
      clear hb hT hM0 hpr
      go_wp2_with fail
      refine hpf.out.mono ?_
      rintro e w4 ⟨⟨p4, d4, rfl, hd4, hA⟩, hb4⟩
      dsimp only at hd4 hA ⊢
      have hAl : ((List.range l.length).map (fun i => onK l t (i + 1))).length = l.length := by simp
      rw [hAl] at hd4 ⊢
      have hbb := hb3.out.trans (hb4.mono hb3.out.size)
      have hLb := Lib.hid (fun wx (h : Below w4.heap.size w4 wx) => (hL.out.below hb4).below h)
      have hTb := Lib.hid (fun wx (h : Below w4.heap.size w4 wx) => (hT3.out.below hb4).below h)
      have hAb := Lib.hid (fun wx (h : Below w4.heap.size w4 wx) (i : Nat) (hi : i < l.length) (a : Addr) (ha : p4 = some a) => (by
        subst ha
        have := in_at (hA.below h) (k := i) (by simpa using hi)
        simpa using this : (loadVar 3 (a.add i)).run Try.prog wx = .ok (.int .i64 (onK l t (i + 1))) wx))
      have hAs := Lib.hid (fun (i : Nat) (hi : i < l.length) => hA.some_of (k := i) (by simpa using hi))
      have hop := Lib.hid (fun wx (h : Below w4.heap.size w4 wx) (i : Nat) (hi : i < l.length) => open_calls p3 d3 l ((i : Int) + 1) (i + 1) wx ((hL.out.below hb4).below h) (by omega) hd3 hwf.out (kk_in hi))
      replace hbb := Lib.hid hbb
      clear hAl hA hb4 hb3 hpf hL hT3 hwf
      have hon0 : onK l t 0 = 0 := onK_zero l t
      replace hon0 := Lib.hid hon0
      go_wp2_with fail
      go_loopw [9, 10] (fun s9 s10 wx => ∃ i : Nat, i ≤ l.length ∧ s10 = .int .i64 i ∧ s9 = .int .i64 (onK l t i) ∧ Below w4.heap.size w4 wx) (fun _ s10 _ => l.length - (intOf s10).toNat)
      case atStart => exact ⟨0, Nat.zero_le _, rfl, by rw [hon0.out], Below.refl _ _⟩
      case round =>
        obtain ⟨i, hi, rfl, rfl, hb⟩ := hrel
        by_cases hil : i < l.length
        · have hiI : (i : Int) < (l.length : Int) := by omega
          have hi0 : (0 : Int) ≤ (i : Int) := by omega
          have s1 : IntKind.i64.wrap ((i : Int) + 1) = (i : Int) + 1 := IntWalk.i64_in _ (by omega)
          have hL5 := hLb.out wr hb
          have hT5 := hTb.out wr hb
          obtain ⟨a, ha⟩ := hL5.some_of (k := i) (by simpa using hil)
          obtain ⟨aA, haA⟩ := hAs.out i hil
          have hlA := Lib.hid (fun wx (h : Below w4.heap.size w4 wx) => hAb.out wx h i hil aA haA)
          have hopi := Lib.hid (hop.out wr hb i hil)
          have hsucc := onK_succ l t hil
          have hle0 := hle.out i hi
          have hle1 := hle.out (i + 1) (by omega)
          have hnn0 := hnn.out i hi
          have hnn1 := hnn.out (i + 1) (by omega)
          have hs1 := hsO.out (i + 1) (by omega)
          have hon1 := Lib.hid (hon.out (i + 1) (by omega))
          have hol1 := hol.out (i + 1)
          change (openD l (i + 1)).length ≤ i + 1 at hol1
          unfold sumO at hs1
          generalize openD l (i + 1) = Q at *
          obtain ⟨hk2, n, hn, hnt, hn1, hn2⟩ := hkd.out l[i] (List.getElem_mem hil)
          rw [sgL_of t l[i] hn hnt hk2] at hsucc
          have hc0 := hL5.cells a ha i (stV l[i]) 0 (.int .i64 l[i].1) (by rw [List.getElem?_map, List.getElem?_eq_getElem hil]; rfl) rfl
          have hc1 := hL5.cells a ha i (stV l[i]) 1 (.int .i64 l[i].2) (by rw [List.getElem?_map, List.getElem?_eq_getElem hil]; rfl) rfl
          rw [← addr_add_add] at hc1
          rw [Nat.add_zero] at hc0
          obtain ⟨b, hbq⟩ := hT5.some_of (k := n) (by simpa using hnt)
          have hc2 := hT5.cells b hbq n (rqV t[n]) 8 (.int .i64 (t[n] 8)) (by rw [List.getElem?_map, List.getElem?_eq_getElem hnt]; rfl) rfl
          rw [← addr_add_add] at hc2
          rw [hn] at hc0
          generalize l[i] = s at *
          obtain ⟨sr, sk⟩ := s
          dsimp only at *
          clear hn
          generalize t[n] 8 = u at *
          have hl0 := Lib.hid (run_i64 hc0)
          have hl1 := Lib.hid (run_i64 hc1)
          have hl2 := Lib.hid (run_i64 hc2)
          have hnI : (n : Int) < (t.length : Int) := by omega
          have hn0 : (0 : Int) ≤ (n : Int) := by omega
          subst ha haA hbq
          have hs9 : Hid (∀ x, (if sk = 0 then u else -u) = x → IntKind.i64.wrap (onK l t i + x) = onK l t (i + 1)) := Lib.hid (fun x hx => by
            rw [hx] at hsucc
            rw [← hsucc]
            exact IntWalk.i64_in _ (by omega))
          have hsg : IntKind.i64.wrap (-u) = -u := IntWalk.i64_in _ (by omega)
          replace hbr := Lib.hid hb
          have hsb := Lib.hid (fun m => sum_bd (fun r => t.getD r.toNat rqZ0 8) Q m (fun r hr => by
            obtain ⟨n, rfl, h1, h2⟩ := hon1.out r hr
            rw [Int.toNat_natCast, getD_at t h1]
            exact h2))
          replace hs1 := Lib.hid hs1
          obtain ⟨S1, hS1⟩ : ∃ S1, onK l t (i + 1) = S1 := ⟨_, rfl⟩
          rw [hS1] at hs1 hs9 hlA hle1 hnn1
          replace hS1 := Lib.hid hS1
          generalize onK l t i = S0 at *
          clear hc0 hc1 hc2 hL5 hT5 hb hsucc
          rcases hk2 with rfl | rfl
          · have hsx := hs9.out u (if_pos rfl)
            clear hs9
            go_upto_region 18 with (first | (refine wpList_load_v rfl 3 _ rfl (a.add (i * 2)) rfl _ hl0.out ?_) | (refine wpList_load_v rfl 3 _ rfl ((a.add (i * 2)).add 1) rfl _ hl1.out ?_) | (refine wpList_load_v rfl 3 _ rfl ((b.add (n * 10)).add 8) rfl _ hl2.out ?_))
            clear hl0 hl1 hl2 hsx hsg
            go_wp2_with fail
            refine hopi.out.mono ?_
            rintro e w6 ⟨⟨q6, d6, rfl, hd6, hQ⟩, hb6⟩
            replace hb6 := hbr.out.trans (hb6.mono hbr.out.size)
            have hl6 := Lib.hid (hlA.out w6 hb6)
            have hT6 := Lib.hid (hTb.out w6 hb6)
            replace hQ := Lib.hid hQ
            replace hb6 := Lib.hid hb6
            clear hopi hbr hlA
            go_wp2_with fail
            go_loopw [12, 14] (fun s12 s14 wx => wx = w6 ∧ ∃ m : Nat, m ≤ Q.length ∧ s14 = .int .i64 m ∧ s12 = .int .i64 ((Q.take m).map (fun r => t.getD r.toNat rqZ0 8)).sum) (fun _ s14 _ => Q.length - (intOf s14).toNat)
            case atStart => exact ⟨rfl, 0, Nat.zero_le _, rfl, by simp⟩
            case round =>
              obtain ⟨rfl, m, hm, rfl, rfl⟩ := hrel
              have hbm := hsb.out m
              by_cases hltm : m < Q.length
              · have hltM : (m : Int) < (Q.length : Int) := by omega
                have s2 : IntKind.i64.wrap ((m : Int) + 1) = (m : Int) + 1 := IntWalk.i64_in _ (by omega)
                obtain ⟨a6, ha6⟩ := hQ.out.some_of (k := m) (by simpa using hltm)
                subst ha6
                have hla := Lib.hid (in_at hQ.out hltm)
                obtain ⟨n6, hn6, h1, h2, h3⟩ := hon1.out Q[m] (List.getElem_mem hltm)
                have hts : Hid (((Q.take (m + 1)).map (fun r => t.getD r.toNat rqZ0 8)).sum = ((Q.take m).map (fun r => t.getD r.toNat rqZ0 8)).sum + t[n6] 8) := Lib.hid (by
                  rw [List.take_succ_eq_append_getElem hltm, List.map_append, List.sum_append, hn6]
                  simp [List.getElem?_eq_getElem h1])
                rw [hn6] at hla
                have hlb := hT6.out.cells b rfl n6 (rqV t[n6]) 8 (.int .i64 (t[n6] 8)) (by rw [List.getElem?_map, List.getElem?_eq_getElem h1]; rfl) rfl
                rw [← addr_add_add] at hlb
                replace hlb := Lib.hid (run_i64 hlb)
                have h1I : (n6 : Int) < (t.length : Int) := by omega
                generalize t[n6] 8 = u6 at *
                generalize ((Q.take m).map (fun r => t.getD r.toNat rqZ0 8)).sum = S at *
                have s3 : IntKind.i64.wrap (S + u6) = S + u6 := IntWalk.i64_in _ (by omega)
                clear hn6
                go_wp2_with (first | (refine wpList_load_v rfl 3 _ rfl (a6.add m) rfl _ hla.out ?_) | (refine wpList_load_v rfl 3 _ rfl ((b.add (n6 * 10)).add 8) rfl _ hlb.out ?_))
                go_roundw
                case rel => exact ⟨trivial, m + 1, by omega, by simp, by rw [hts.out]⟩
                case measure => simp [intOf]; omega
              · obtain rfl : m = Q.length := by omega
                rw [List.take_length]
                rw [hs1.out]
                have hS0 : ¬ S1 < 0 := by omega
                go_wp2_with (refine wpList_load_v rfl 3 _ rfl (aA.add i) rfl _ hl6.out ?_)
                go_roundw
                case rel => exact ⟨i + 1, by omega, by simp, by rw [hS1.out], hb6.out⟩
                case measure => simp [intOf]; omega
          · have hsx := hs9.out (-u) (if_neg (by decide))
            clear hs9
            go_upto_region 18 with (first | (refine wpList_load_v rfl 3 _ rfl (a.add (i * 2)) rfl _ hl0.out ?_) | (refine wpList_load_v rfl 3 _ rfl ((a.add (i * 2)).add 1) rfl _ hl1.out ?_) | (refine wpList_load_v rfl 3 _ rfl ((b.add (n * 10)).add 8) rfl _ hl2.out ?_))
            clear hl0 hl1 hl2 hsx hsg
            go_wp2_with fail
            refine hopi.out.mono ?_
            rintro e w6 ⟨⟨q6, d6, rfl, hd6, hQ⟩, hb6⟩
            replace hb6 := hbr.out.trans (hb6.mono hbr.out.size)
            have hl6 := Lib.hid (hlA.out w6 hb6)
            have hT6 := Lib.hid (hTb.out w6 hb6)
            replace hQ := Lib.hid hQ
            replace hb6 := Lib.hid hb6
            clear hopi hbr hlA
            go_wp2_with fail
            go_loopw [12, 14] (fun s12 s14 wx => wx = w6 ∧ ∃ m : Nat, m ≤ Q.length ∧ s14 = .int .i64 m ∧ s12 = .int .i64 ((Q.take m).map (fun r => t.getD r.toNat rqZ0 8)).sum) (fun _ s14 _ => Q.length - (intOf s14).toNat)
            case atStart => exact ⟨rfl, 0, Nat.zero_le _, rfl, by simp⟩
            case round =>
              obtain ⟨rfl, m, hm, rfl, rfl⟩ := hrel
              have hbm := hsb.out m
              by_cases hltm : m < Q.length
              · have hltM : (m : Int) < (Q.length : Int) := by omega
                have s2 : IntKind.i64.wrap ((m : Int) + 1) = (m : Int) + 1 := IntWalk.i64_in _ (by omega)
                obtain ⟨a6, ha6⟩ := hQ.out.some_of (k := m) (by simpa using hltm)
                subst ha6
                have hla := Lib.hid (in_at hQ.out hltm)
                obtain ⟨n6, hn6, h1, h2, h3⟩ := hon1.out Q[m] (List.getElem_mem hltm)
                have hts : Hid (((Q.take (m + 1)).map (fun r => t.getD r.toNat rqZ0 8)).sum = ((Q.take m).map (fun r => t.getD r.toNat rqZ0 8)).sum + t[n6] 8) := Lib.hid (by
                  rw [List.take_succ_eq_append_getElem hltm, List.map_append, List.sum_append, hn6]
                  simp [List.getElem?_eq_getElem h1])
                rw [hn6] at hla
                have hlb := hT6.out.cells b rfl n6 (rqV t[n6]) 8 (.int .i64 (t[n6] 8)) (by rw [List.getElem?_map, List.getElem?_eq_getElem h1]; rfl) rfl
                rw [← addr_add_add] at hlb
                replace hlb := Lib.hid (run_i64 hlb)
                have h1I : (n6 : Int) < (t.length : Int) := by omega
                generalize t[n6] 8 = u6 at *
                generalize ((Q.take m).map (fun r => t.getD r.toNat rqZ0 8)).sum = S at *
                have s3 : IntKind.i64.wrap (S + u6) = S + u6 := IntWalk.i64_in _ (by omega)
                clear hn6
                go_wp2_with (first | (refine wpList_load_v rfl 3 _ rfl (a6.add m) rfl _ hla.out ?_) | (refine wpList_load_v rfl 3 _ rfl ((b.add (n6 * 10)).add 8) rfl _ hlb.out ?_))
                go_roundw
                case rel => exact ⟨trivial, m + 1, by omega, by simp, by rw [hts.out]⟩
                case measure => simp [intOf]; omega
              · obtain rfl : m = Q.length := by omega
                rw [List.take_length]
                rw [hs1.out]
                have hS0 : ¬ S1 < 0 := by omega
                go_wp2_with (refine wpList_load_v rfl 3 _ rfl (aA.add i) rfl _ hl6.out ?_)
                go_roundw
                case rel => exact ⟨i + 1, by omega, by simp, by rw [hS1.out], hb6.out⟩
                case measure => simp [intOf]; omega
        · obtain rfl : i = l.length := by omega
          rw [hend.out]
          go_wp2_with fail
          go_ret
          exact ⟨rfl, hbb.out.trans (hb.mono hbb.out.size)⟩
end Go.Proofs.Ytaijimckbpplnaa
