/- The walk of the law OddsEven. -/
import Derived.Test.YtmfbiohdmhbkoaaHe
import Derived.Test.YtmfbiohdmhbkoaaPx
namespace Go.Proofs.Ytmfbiohdmhbkoaa
open Go.RowKit

theorem fairR_go {s b : Nat} {l : List Int} (hs : 2 ≤ s) (hs' : s ≤ 6) (hb : 1 ≤ b) (hb' : b ≤ 12) (hl : l.length ≤ 100) (hd : ∀ x ∈ l, 0 ≤ x ∧ x < s) : fairR s b l = fairGo s b l 1 0 0 := by
  have hany : ¬ l.any (badT s) = true := by
    rw [Bool.not_eq_true, List.any_eq_false]
    intro x hx
    have := hd x hx
    simp [badT]; omega
  rw [fairR_any, if_neg (by omega), if_neg (by omega), if_neg hany]
/-- what Fair finds: nothing, or a value by a beginning of the throws -/
theorem even_val {s b n x : Nat} (hs : 2 ≤ s) (hs' : s ≤ 6) (hb : 1 ≤ b) (hb' : b ≤ 12) (hn : n ≤ 5) :
    (valN s b (dig s n x) 1 0 = none ∧ fairR s b ((dig s n x).map Int.ofNat) = (0, 0, 7)) ∨
    ∃ v k : Nat, v < b ∧ k ≤ n ∧ valN s b (dig s n x) 1 0 = some v ∧ fairR s b ((dig s n x).map Int.ofNat) = ((v : Int), (k : Int), 0) ∧ fairR s b (((dig s n x).take k).map Int.ofNat) = ((v : Int), (k : Int), 0) := by
  have hdig : ∀ l : List Nat, (∀ t ∈ l, t ∈ dig s n x) → ∀ y ∈ l.map Int.ofNat, 0 ≤ y ∧ y < (s : Int) := fun l hl y hy => by
    obtain ⟨t, ht, rfl⟩ := List.mem_map.1 hy
    have := digE_lt (show 0 < s by omega) n x t (hl t ht)
    simp; omega
  have hgo := fairR_go (l := (dig s n x).map Int.ofNat) hs hs' hb hb' (by rw [List.length_map, digE_len]; omega) (hdig _ fun t h => h)
  have key := fairGo_val (s := s) (b := b) (by omega) (dig s n x) 1 0 0
  cases hv : valN s b (dig s n x) 1 0 with
  | none =>
    rw [hv] at key
    exact .inl ⟨rfl, by rw [hgo]; exact key⟩
  | some v =>
    rw [hv] at key
    obtain ⟨k, hk, h1, h2, h3⟩ := key
    rw [digE_len] at hk
    have hgo2 := fairR_go (l := ((dig s n x).take k).map Int.ofNat) hs hs' hb hb' (by rw [List.length_map, List.length_take, digE_len]; omega) (hdig _ fun t h => List.mem_of_mem_take h)
    rw [Int.zero_add] at h1 h2
    exact .inr ⟨v, k, h3, hk, rfl, by rw [hgo]; exact h1, by rw [hgo2]; exact h2⟩
theorem pow_bd {S : Nat} (h : S ≤ 6) : ∀ k, k ≤ 5 → S ^ k ≤ 7776 := fun k hk => by
  have h1 : S ^ k ≤ 6 ^ k := Nat.pow_le_pow_left h k
  have h2 : 6 ^ k ≤ 6 ^ 5 := Nat.pow_le_pow_right (by omega) hk
  omega
theorem sl_take {W : World} {Bd : Nat} {A : Option Addr} {l : List Int} (h : Sl intCell 1 W Bd A l) (k : Nat) : Sl intCell 1 W Bd A (l.take k) := by
  refine ⟨by rw [flat_int]; simp, fun hp => ?_⟩
  rw [List.length_take] at hp
  obtain ⟨b, o, rfl, hb, hc⟩ := h.2 (by omega)
  refine ⟨b, o, rfl, hb, fun j u hu => hc j u ?_⟩
  rw [flat_int] at hu ⊢
  rw [List.map_take, List.getElem?_take] at hu
  split at hu
  · exact hu
  · cases hu
set_option maxRecDepth 100000 in
set_option maxHeartbeats 16000000 in
theorem lweven_any (p q r : Int) (w : World) (p0 : 0 ≤ p) (p1 : p < 256) (q0 : 0 ≤ q) (q1 : q < 256) (r0 : 0 ≤ r) (r1 : r < 256) :
    Calls Try.prog 6 #[.int .u8 p, .int .u8 q, .int .u8 r] w fun e w' => e = .returned (.bool true) ∧ Below w.heap.size w w' := by
  obtain ⟨i0, hi, iz0, iz1, iz2⟩ := info_parts infoInt
  obtain ⟨x, hx⟩ := Int.eq_ofNat_of_zero_le (Int.emod_nonneg p (show (5 : Int) ≠ 0 by omega))
  obtain ⟨y, hy⟩ := Int.eq_ofNat_of_zero_le (Int.emod_nonneg q (show (12 : Int) ≠ 0 by omega))
  obtain ⟨N, hN⟩ := Int.eq_ofNat_of_zero_le (Int.emod_nonneg r (show (6 : Int) ≠ 0 by omega))
  obtain ⟨S, hS⟩ : ∃ S : Nat, S = 2 + x := ⟨_, rfl⟩
  obtain ⟨B, hB⟩ : ∃ B : Nat, B = 1 + y := ⟨_, rfl⟩
  have eS : (2 : Int) + (x : Int) = (S : Int) := by omega
  have eB : (1 : Int) + (y : Int) = (B : Int) := by omega
  have s1 : 2 ≤ S := by omega
  have s2 : S ≤ 6 := by omega
  have b1 : 1 ≤ B := by omega
  have b2 : B ≤ 12 := by omega
  have n2 : N ≤ 5 := by omega
  have HPB := Lib.hid (pow_bd s2)
  have HEV := Lib.hid (fun k => even_val (x := k) s1 s2 b1 b2 n2)
  have hx5 : x ≤ 4 := by omega
  have hy12 : y ≤ 11 := by omega
  clear hS hB
  go_enter Try.func6, Try.ntmps6
  go_wp2_with (at_make; refine wpList_make_arr _ rfl _ _ rfl i0 uInts hi iz0 iz1 iz2 .i64 .i64 _ _ B rfl rfl rfl rfl (by omega) ?_; intro w1 ha1 hw1)
  obtain ⟨g, hg⟩ : ∃ g, g = w.heap.size := ⟨_, rfl⟩
  have hgw : w.heap.size ≤ g := by omega
  have hgl : g < w1.heap.size := by have := ha1.lt_; omega
  have HA1 : Hid (Arr w1 g (cntL S B N 0)) := (by rw [cntL_zero, hg]; exact ha1 : Arr w1 g _)
  rw [← hg]
  clear ha1 hg
  refine Lib.hid ?_
  go_wp2
  go_loop [11, 12] (fun a i => ∃ k P : Nat, k ≤ N ∧ i = .int .i64 k ∧ a = .int .i64 P ∧ P ≤ 7776 ∧ Hid (P = S ^ k)) (fun _ i => N - (intOf i).toNat)
  case atStart => exact ⟨0, 1, by omega, rfl, rfl, by omega, (by show 1 = S ^ 0; rw [Nat.pow_zero])⟩
  case round =>
    obtain ⟨k, P, hk, rfl, rfl, hP, HP⟩ := hrel
    by_cases hlt : k < N
    · have HQ : Hid (P * S = S ^ (k + 1)) := (by rw [HP.out, Nat.pow_succ] : P * S = S ^ (k + 1))
      have hQ : P * S ≤ 7776 := by rw [HQ.out]; exact HPB.out _ (by omega)
      have eQ : (P : Int) * (S : Int) = ((P * S : Nat) : Int) := (Int.natCast_mul P S).symm
      obtain ⟨Q, hQe⟩ : ∃ Q, Q = P * S := ⟨_, rfl⟩
      rw [← hQe] at HQ hQ eQ
      clear hQe
      go_wp2
      go_round
      case rel => exact ⟨k + 1, Q, by omega, by go_num, by first | rfl | go_num, hQ, HQ⟩
      case measure => simp [intOf]; omega
    · obtain rfl : k = N := by omega
      go_wp2
      go_loopw [13, 14, 15, 16, 17, 18, 19, 20, 21, 22] (fun vx _ _ _ _ _ _ _ _ _ wr => ∃ j : Nat, j ≤ P ∧ vx = .int .i64 j ∧ Hid (Arr wr g (cntL S B k j)) ∧ Below w.heap.size w wr) (fun vx _ _ _ _ _ _ _ _ _ _ => P - (intOf vx).toNat)
      case atStart => exact ⟨0, by omega, rfl, HA1, hw1⟩
      case round =>
        clear HA1 hw1
        obtain ⟨z, hz, rfl, HA, hbr⟩ := hrel
        have hgr := HA.out.lt_
        by_cases hlt2 : z < P
        · have HE := Lib.hid (HEV.out z)
          obtain ⟨wo, rfl⟩ : ∃ wo : World, wo = wr := ⟨_, rfl⟩
          go_wp2
          refine gen_w (fun W => W.ownsRow wo.heap.size 3 1 (.slice (some ⟨wo.heap.size, 0, none⟩) 0 0) 0 [] ∧ Below wo.heap.size wo W) ⟨by simpa using World.ownsRow_made (e := 3) (size := 1) wo #[] 0 (base := wo.heap.size) (Nat.le_refl _) (by simp) (by simp), (Below.refl _ _).alloc (Nat.le_refl _) _⟩ ?_
          rintro W0 ⟨how, hbW⟩
          have HOW := Lib.hid how
          clear how
          go_loopw [14, 15, 16] (fun v i vy wq => ∃ (j Y : Nat) (pre : List Nat) (gb cap : Nat), j ≤ k ∧ i = .int .i64 j ∧ vy = .int .i64 Y ∧ v = .slice (some ⟨gb, 0, none⟩) j cap ∧ Hid (pre.length = j) ∧ j ≤ cap ∧ Hid (dig S k z = pre ++ dig S (k - j) Y) ∧ Hid (wq.ownsRow wo.heap.size 3 1 (.slice (some ⟨gb, 0, none⟩) j cap) j ((pre.map Int.ofNat).map (Value.int .i64))) ∧ Y ≤ 10000 ∧ Hid (Below wo.heap.size wo wq)) (fun _ i _ _ => k - (intOf i).toNat)
          case atStart => exact ⟨0, z, [], _, 0, by omega, rfl, rfl, rfl, rfl, by omega, (by show dig S k z = [] ++ dig S (k - 0) z; rfl), HOW, by omega, hbW⟩
          case round =>
            clear HOW hbW
            obtain ⟨j, Y, pre, gb, cap, hj, rfl, rfl, rfl, HPL, hcap, HD, hown, hY, HBq⟩ := hrel
            have hbq := HBq.out
            have hsz := hbq.size
            by_cases hjk : j < k
            · have HDN : Hid (dig S k z = (pre ++ [Y % S]) ++ dig S (k - (j + 1)) (Y / S)) := (by
                rw [HD.out, show k - j = (k - (j + 1)) + 1 by omega, dig, List.append_assoc]; rfl : dig S k z = (pre ++ [Y % S]) ++ dig S (k - (j + 1)) (Y / S))
              have eM : (Y : Int) % (S : Int) = ((Y % S : Nat) : Int) := (Int.natCast_emod Y S).symm
              have eD : (Y : Int) / (S : Int) = ((Y / S : Nat) : Int) := (Int.natCast_ediv Y S).symm
              have hM : Y % S < S := Nat.mod_lt _ (by omega)
              have hQ : Y / S ≤ Y := Nat.div_le_self _ _
              have s0 : ((S : Int) == 0) = false := by simp; omega
              obtain ⟨M, hMe⟩ : ∃ M, M = Y % S := ⟨_, rfl⟩
              obtain ⟨Q, hQe⟩ : ∃ M, M = Y / S := ⟨_, rfl⟩
              rw [← hMe] at eM HDN hM
              rw [← hQe] at eD HDN hQ
              clear hMe hQe
              go_wp2_with (at_builtin; refine wpList_append_own _ rfl _ _ 22 rfl wo.heap.size 3 i0 (.int .i64 0) 1 8 uInts hi iz0 iz1 iz2 rfl (by decide) _ _ _ rfl (hown.out.alloc _) ⟨wr.heap.size, 0, none⟩ 1 1 [.int .i64 (M : Int)] rfl rfl (cell_one_new _ _ _) (by simp [Value.oneCell']) (by unfold maxLen; omega) (by omega) (by simp; omega) ?_; intro v' w3 hown3 hgrow _; refine Hid.out ?_)
              have hb3 : Below wo.heap.size wo w3 := (hbq.alloc hsz _).grown hgrow (by simp; omega) (fun g hg => (hown.out.lt g hg).1)
              obtain ⟨g3, cap3, hv3, hn3⟩ : ∃ g3 cap3, v' = .slice (some ⟨g3, 0, none⟩) (j + 1) cap3 ∧ j + 1 ≤ cap3 := by
                rcases hown3.2 with ⟨hv, h0⟩ | ⟨g3, cap3, cur, hv, _, _, hn, _⟩
                · simp at h0
                · exact ⟨g3, cap3, by simpa [Nat.add_comm] using hv, by omega⟩
              subst hv3
              have HO3 : Hid (w3.ownsRow wo.heap.size 3 1 (.slice (some ⟨g3, 0, none⟩) (j + 1) cap3) (j + 1) (((pre ++ [M]).map Int.ofNat).map (Value.int .i64))) := (by rw [List.map_append, List.map_append]; simpa [Nat.add_comm] using hown3 : w3.ownsRow wo.heap.size 3 1 (.slice (some ⟨g3, 0, none⟩) (j + 1) cap3) (j + 1) (((pre ++ [M]).map Int.ofNat).map (Value.int .i64)))
              have HPL3 : Hid ((pre ++ [M]).length = j + 1) := (by rw [List.length_append, HPL.out]; rfl : (pre ++ [M]).length = j + 1)
              clear hown3 hgrow
              refine Lib.hid ?_
              go_wp2
              go_roundw
              case rel => exact ⟨j + 1, Q, pre ++ [M], g3, cap3, by omega, by go_num, rfl, rfl, HPL3, hn3, HDN, HO3, by omega, hb3⟩
              case measure => simp [intOf]; omega
            · obtain rfl : j = k := by omega
              have hpre : dig S j z = pre := by have h := HD.out; rw [Nat.sub_self] at h; simpa [dig] using h
              have hDl : (pre.map Int.ofNat).length = j := by rw [List.length_map]; exact HPL.out
              have hsl : Sl intCell 1 wr wr.heap.size (some ⟨gb, 0, none⟩) (pre.map Int.ofNat) := by
                obtain ⟨A', c', hv, h4, -⟩ := sl_of_own (l := pre.map Int.ofNat) (by rw [hDl, flat_int]; exact hown.out)
                injection hv with e1 e2 e3
                subst e1
                exact h4
              have he := HE.out
              rw [hpre] at he
              simp only [List.map_take] at he
              obtain ⟨D, hD⟩ : ∃ D, D = pre.map Int.ofNat := ⟨_, rfl⟩
              rw [← hD] at hDl hsl he
              have HOWN := own_any (some ⟨gb, 0, none⟩) cap D wr (by omega) (fun e => nomatch e) hsl
              rw [hDl] at HOWN
              have HOWN := Lib.hid HOWN
              have hDl6 : D.length ≤ 1000000 := by omega
              have HSL := Lib.hid hsl; have HDL := Lib.hid hDl; have HPRE := Lib.hid hpre
              clear hpre hDl hsl hD hown HD HPL HBq HE
              rcases he with ⟨h0, hF⟩ | ⟨v, u, hv, hu, h0, hF, hF2⟩
              · have HT : Hid (cntL S B j (z + 1) = cntL S B j z) := (cntL_none (by rw [HPRE.out]; exact h0) : cntL S B j (z + 1) = cntL S B j z)
                have HF := Lib.hid hF
                clear h0 hF
                go_wp2_with (first | (go_at_call 18; refine HOWN.out.mono ?_; rintro _ W4 ⟨A4, c4, rfl, hs4, -, hb4⟩) | (go_at_call 23; refine (fair_any A4 c4 D S B W4 hDl6 hs4).mono ?_; rw [HF.out]; rintro _ W5 ⟨rfl, hb5⟩))
                have hx5' := bl2 (bl2 hbq hb4) hb5
                go_roundw
                case rel => exact ⟨z + 1, by omega, by go_num, (by rw [HT.out]; exact HA.out.below hx5' hgr : Arr _ g _), bl2 hbr hx5'⟩
                case measure => simp [intOf]; omega
              · have HT := Lib.hid (cntL_some hv (by rw [HPRE.out]; exact h0))
                have HF := Lib.hid hF; have HF2 := Lib.hid hF2
                have hcl := cntE_le S B j z v
                have hcg := cntL_get (s := S) (n := j) (k := z) hv
                rw [hcg] at HT
                have d1 : decide ((B : Int) ≤ (v : Int)) = false := by simp; omega
                have d2 : decide (B ≤ v) = false := by simp; omega
                have d3 : decide ((j : Int) < (u : Int)) = false := by simp; omega
                have d4 : decide (j < u) = false := by simp; omega
                have hu0 : (0 : Int) ≤ (u : Int) := by omega
                have hu1 : (u : Int) ≤ (cap : Int) := by omega
                have hu2 : u ≤ cap := by omega
                have HCG := Lib.hid hcg
                clear h0 hF hF2 hcg
                go_wp2_with (first | (go_at_call 18; refine HOWN.out.mono ?_; rintro _ W4 ⟨A4, c4, rfl, hs4, -, hb4⟩) | (go_at_call 23; refine (fair_any A4 c4 D S B W4 hDl6 hs4).mono ?_; rw [HF.out]; rintro _ W5 ⟨rfl, hb5⟩; refine Hid.out ?_))
                have hy5 := bl2 hb4 hb5
                have hx5' := bl2 hbq hy5
                have HTK := own_any (some ⟨gb, 0, none⟩) cap (D.take u) W5 (by rw [List.length_take]; omega) (fun e => nomatch e) (sl_take ((HSL.out.below hy5).more hy5.size) u)
                rw [List.length_take, HDL.out, Nat.min_eq_left hu] at HTK
                have HTK := Lib.hid HTK
                have hTl : (D.take u).length ≤ 1000000 := by rw [List.length_take]; omega
                obtain ⟨E, hE⟩ : ∃ E, E = D.take u := ⟨_, rfl⟩
                rw [← hE] at HTK hTl HF2
                clear hE hs4 hb4 hb5 HOWN HSL
                refine Lib.hid ?_
                go_wp2_with (first | (go_at_call 18; refine HTK.out.mono ?_; rintro _ W6 ⟨A6, c6, rfl, hs6, -, hb6⟩) | (go_at_call 23; refine (fair_any A6 c6 E S B W6 hTl hs6).mono ?_; rw [HF2.out]; rintro _ W7 ⟨rfl, hb7⟩; refine Hid.out ?_))
                have hx7 := bl2 (bl2 hx5' hb6) hb7
                have HA7 : Hid (Arr W7 g (cntL S B j z)) := (HA.out.below hx7 hgr : Arr W7 g (cntL S B j z))
                have hvl : v < (cntL S B j z).length := by rw [cntL_len]; exact hv
                have cA := HA7.out.at_ hvl
                rw [HCG.out] at cA
                have fA := Blk.free HA7.out v
                have hv0 : (0 : Int) ≤ (v : Int) := by omega
                have hv1 : (v : Int) < (B : Int) := by omega
                have hw7 := bl2 hbr hx7
                obtain ⟨ce, hce⟩ : ∃ ce, ce = cntE S B j z v := ⟨_, rfl⟩
                rw [← hce] at cA HT hcl
                clear hs6 hb6 hb7 hvl hce
                refine Lib.hid ?_
                go_wp2
                go_roundw
                case rel => exact ⟨z + 1, by omega, by go_num, (by rw [HT.out]; exact HA7.out.put v _ : Arr _ g _), by (repeat (first | exact Below.refl _ _ | assumption | (refine Below.alloc ?_ (by first | omega | (simp; omega) | (simp; done)) _) | (refine Below.setCell ?_ (by first | omega | (simp; omega) | (simp; done)) _) | (refine Below.drew ?_) | (refine belowN ?_ _) | (refine Below.trans ?_ (Below.mono ‹Below _ _ _› (by first | omega | (simp; omega) | (simp; done))))))⟩
                case measure => simp [intOf] <;> omega
        · obtain rfl : z = P := by omega
          have hev : ∀ v, v < B → cntE S B k z v = cntE S B k z 0 := fun v hv => by
            rw [HP.out]; exact cntE_even (by omega) (by omega) hv (by omega)
          have HEVN := Lib.hid hev
          clear hev
          go_wp2
          go_loopw [23] (fun i wq => ∃ v : Nat, 1 ≤ v ∧ v ≤ B ∧ i = .int .i64 v ∧ Below wr.heap.size wr wq) (fun i _ => B - (intOf i).toNat)
          case atStart => exact ⟨1, by omega, by omega, rfl, Below.refl _ _⟩
          case round =>
            obtain ⟨v, hv1, hvB, rfl, hbq⟩ := hrel
            by_cases hlt3 : v < B
            · have HAq : Arr wr g (cntL S B k z) := HA.out.below hbq hgr
              have ca := HAq.at_ (j := v) (by rw [cntL_len]; exact hlt3)
              have cb := HAq.at_ (j := 0) (by rw [cntL_len]; omega)
              rw [cntL_get hlt3, HEVN.out v hlt3] at ca
              rw [cntL_get (by omega)] at cb
              obtain ⟨ce, hce⟩ : ∃ ce, ce = cntE S B k z 0 := ⟨_, rfl⟩
              rw [← hce] at ca cb
              have hj0 : (0 : Int) ≤ (v : Int) := by omega
              have hj1 : (v : Int) < (B : Int) := by omega
              have hj2 : (0 : Int) < (B : Int) := by omega
              clear hce HAq
              go_wp2
              (refine wp_region_ext (by kernel_rfl) (by kernel_rfl) ?_; (repeat (go_big_quiet_step((fail)))); with_reducible refine wpQuiet_nil ?_; intro w9 hw9; have hb9 := ext_below hw9; clear hw9)
              go_wp2
              go_roundw
              case rel => exact ⟨v + 1, by omega, by omega, by go_num, bl2 hbq hb9⟩
              case measure => simp [intOf]; omega
            · obtain rfl : v = B := by omega
              have hwq := bl2 hbr hbq
              go_wp2_with (go_at_call 16; refine (known_any _).mono ?_; rintro _ Wk ⟨rfl, hbk⟩)
              go_ret
              exact ⟨rfl, bl2 hwq hbk⟩
end Go.Proofs.Ytmfbiohdmhbkoaa
