/- The reference: divided, rest. -/
import Derived.Test.YtmfbiohdmhbkoaaRb
import Derived.Test.YtmfbiohdmhbkoaaGx
import Derived.Test.YtmfbiohdmhbkoaaHc
import Derived.Test.YtmfbiohdmhbkoaaPy
namespace Go.Proofs.Ytmfbiohdmhbkoaa
open Go.RowKit

theorem ownsRow_lit {w : World} {base : Nat} {e : TypeId} (cs : Array Value) (hb : base ≤ w.heap.size) (hm : cs.size ≤ maxLen) :
    (w.alloc (.cells cs e)).ownsRow base e 1 (.slice (some ⟨w.heap.size, 0, none⟩) cs.size cs.size) cs.size cs.toList :=
  ⟨by simp, .inr ⟨w.heap.size, _, cs, rfl, hb, heap_alloc_new w _, Nat.le_refl _, hm, by simp, List.take_of_length_le (by simp)⟩⟩
/-- two numbers are returned -/
def RetII (x y : Int) (w : World) (e : Ending) (w' : World) : Prop := e = .returned (.tuple #[.int .i64 x, .int .i64 y]) ∧ Below w.heap.size w w'
set_option maxRecDepth 100000 in
set_option maxHeartbeats 8000000 in
theorem rdivided_any (a b c : Int) (w : World) (a0 : 0 ≤ a) (a1 : a ≤ 1000000000000000) (b0 : 0 ≤ b) (b1 : b ≤ 1000000000000000) (c0 : 1 ≤ c) (c1 : c ≤ 1000000000000000) (h : a * b / c ≤ 2000000000000000000) :
    Calls Try.prog 84 #[.int .i64 a, .int .i64 b, .int .i64 c] w (RetII (a * b / c) (a * b % c) w) := by
  obtain ⟨i0, hi, iz0, iz1, iz2⟩ := info_parts infoInt
  have HFIN := Lib.hid (fun q r (h1 : q * c + r = a * b) h2 h3 => div_rest (w := q) (r := r) (c := c) (v := a * b) h1 h2 h3)
  have c00 : (c == 0) = false := by simp; omega
  have ac0 : 0 ≤ a / c := Int.ediv_nonneg a0 (by omega)
  have ac1 : a / c ≤ a := Int.ediv_le_self _ a0
  have ar0 : 0 ≤ a % c := Int.emod_nonneg _ (by omega)
  have ar1 : a % c < c := Int.emod_lt_of_pos _ (by omega)
  have hac : a / c * c + a % c = a := by rw [Int.mul_comm]; exact Int.mul_ediv_add_emod a c
  have HAC := Lib.hid hac
  have HAB : Hid (∀ β, 0 ≤ β → β ≤ b → a * β ≤ a * b) := (fun β _ h2 => Int.mul_le_mul_of_nonneg_left h2 a0 : ∀ β, 0 ≤ β → β ≤ b → a * β ≤ a * b)
  have HQ : Hid (∀ q r β, 0 ≤ r → q * c + r = a * β → 0 ≤ β → β ≤ b → q ≤ 2000000000000000000) := (fun q r β hr hq hb0 hb1 => by
    have h1 := Int.mul_le_mul_of_nonneg_left hb1 a0
    have h2 : q * c ≤ a * b := by omega
    have h3 : q ≤ a * b / c := Int.le_ediv_of_mul_le (by omega) h2
    omega : ∀ q r β, 0 ≤ r → q * c + r = a * β → 0 ≤ β → β ≤ b → q ≤ 2000000000000000000)
  clear h hac
  go_enter Try.func84, Try.ntmps84
  go_wp2
  refine gen_w (fun W => Sl intCell 1 W W.heap.size (some ⟨w.heap.size, 0, none⟩) [] ∧ Below w.heap.size w W) ⟨⟨by simp [flat], fun hp => by simp at hp⟩, by (repeat (first | exact Below.refl _ _ | assumption | (refine Below.alloc ?_ (by first | omega | (simp; omega) | (simp; done)) _) | (refine Below.setCell ?_ (by first | omega | (simp; omega) | (simp; done)) _) | (refine Below.drew ?_) | (refine belowN ?_ _) | (refine Below.trans ?_ (Below.mono ‹Below _ _ _› (by first | omega | (simp; omega) | (simp; done))))))⟩ ?_
  rintro w0 ⟨hs0, hbw⟩
  have HS0 := Lib.hid hs0
  have HB0 : Hid (b = b * 2 ^ ([] : List Int).length + vb []) := (by simp [vb] : b = b * 2 ^ ([] : List Int).length + vb [])
  clear hs0
  go_loopw [10, 11] (fun v vn wr => ∃ (n : Int) (L : List Int) (q : Addr) (k : Nat), vn = .int .i64 n ∧ 0 ≤ n ∧ n ≤ 1000000000000000 ∧ v = .slice (some q) L.length k ∧ Hid (b = n * 2 ^ L.length + vb L) ∧ Hid (∀ x ∈ L, x = 0 ∨ x = 1) ∧ Hid (Sl intCell 1 wr wr.heap.size (some q) L) ∧ L.length ≤ 100 ∧ Hid (n * 2 ^ L.length ≤ b) ∧ Below w.heap.size w wr) (fun _ vn _ => (intOf vn).toNat)
  case atStart => exact ⟨b, [], _, 0, rfl, b0, b1, rfl, HB0, (fun x hx => by cases hx), HS0, by simp, (by simp : b * 2 ^ ([] : List Int).length ≤ b), hbw⟩
  case round =>
    clear HB0 HS0 hbw
    obtain ⟨n, L, q, k, rfl, n0, n1, rfl, HV, HBIT, HSL, hL, HNB, hbr⟩ := hrel
    by_cases hn : 0 < n
    · have HV2 := Lib.hid (vb_bit HV.out)
      have m0 : n % 2 = 0 ∨ n % 2 = 1 := by omega
      have HBIT2 : Hid (∀ x ∈ n % 2 :: L, x = 0 ∨ x = 1) := (fun x hx => by
        rcases List.mem_cons.1 hx with rfl | hx
        · exact m0
        · exact HBIT.out x hx : ∀ x ∈ n % 2 :: L, x = 0 ∨ x = 1)
      have hL2 : L.length + 1 ≤ 100 := by
        rcases Nat.lt_or_ge L.length 60 with h | h
        · omega
        · exfalso
          have h1 : (2 : Int) ^ 60 ≤ 2 ^ L.length := by
            have : (2 : Nat) ^ 60 ≤ 2 ^ L.length := Nat.pow_le_pow_right (by omega) h
            exact_mod_cast this
          have h2 : 1 * (2 : Int) ^ L.length ≤ n * 2 ^ L.length := Int.mul_le_mul_of_nonneg_right (by omega) (by omega)
          have h3 := HNB.out
          have h4 : (2 : Int) ^ 60 = 1152921504606846976 := by decide
          omega
      have HNB2 : Hid (n / 2 * 2 ^ (n % 2 :: L).length ≤ b) := (by
        have h1 := HV2.out
        have h2 := vb_nn (l := n % 2 :: L) (fun x hx => by rcases HBIT2.out x hx with h | h <;> omega)
        omega : n / 2 * 2 ^ (n % 2 :: L).length ≤ b)
      have hol := ownsRow_lit (w := wr) (base := wr.heap.size) (e := 3) #[.int .i64 (n % 2)] (Nat.le_refl _) (by simp [maxLen])
      have HOL := Lib.hid hol
      have hcell : ∀ (jj : Nat) (u : Value), (L.map (Value.int .i64))[jj]? = some u → (wr.alloc (.cells #[.int .i64 (n % 2)] 3)).cell? (q.add jj) = some u := fun jj u hu => by
        have hp : 0 < L.length := by
          rcases Nat.eq_zero_or_pos L.length with h | h
          · have : L = [] := List.eq_nil_of_length_eq_zero h
            subst this; simp at hu
          · exact h
        obtain ⟨b', o', e, hb', hc⟩ := HSL.out.2 hp
        cases e
        have h1 := hc jj u (by rw [flat_int]; exact hu)
        rw [Go.WideShapes.add_plain, ((Below.refl wr.heap.size wr).alloc (Nat.le_refl _) _).cell (p := ⟨b', o' + jj, none⟩) hb']
        exact h1
      have HCELL := Lib.hid hcell
      have HDL : Hid ((L.map (Value.int .i64)).length = L.length * 1) := (by rw [List.length_map]; omega : (L.map (Value.int .i64)).length = L.length * 1)
      have nq0 : 0 ≤ n / 2 := by omega
      have nq1 : n / 2 < n := by omega
      clear hol hcell m0
      go_wp2_with (at_builtin; refine wpList_append_own _ rfl _ _ 22 rfl wr.heap.size 3 i0 (.int .i64 0) 1 8 uInts hi iz0 iz1 iz2 rfl (by decide) _ _ _ rfl HOL.out q L.length k _ rfl HDL.out HCELL.out (by simp [Value.oneCell']) (by simp [maxLen]; omega) (by simp; omega) (by simp) ?_; intro v' w1 hown1 hgrow _; refine Hid.out ?_)
      have hb1 : Below wr.heap.size wr w1 := ((Below.refl _ _).alloc (Nat.le_refl _) _).grown hgrow (by simp) (fun g hg => by cases hg; exact Nat.le_refl _)
      have hO : w1.ownsRow wr.heap.size 3 1 v' (n % 2 :: L).length (flat intCell (n % 2 :: L)) := by
        rw [flat_int]; simpa [Nat.add_comm] using hown1
      obtain ⟨q', c', rfl⟩ : ∃ q' c', v' = .slice (some q') (n % 2 :: L).length c' := by
        rcases hO.2 with ⟨_, h0⟩ | ⟨g, cap, cur, hv, _⟩
        · simp at h0
        · exact ⟨_, cap, hv⟩
      obtain ⟨A', c'', hv, h4, -⟩ := sl_of_own hO
      injection hv with e1 e2 e3
      subst e1
      have H4 := Lib.hid h4
      have hL3 : (n % 2 :: L).length ≤ 100 := by rw [List.length_cons]; exact hL2
      obtain ⟨M, hM⟩ : ∃ M, M = n % 2 :: L := ⟨_, rfl⟩
      rw [← hM] at HV2 HBIT2 HNB2 H4 hL3 ⊢
      clear hown1 hgrow hO h4 hM e2 e3 HOL HCELL
      refine Lib.hid ?_
      go_wp2
      go_roundw
      case rel => exact ⟨n / 2, M, q', c', rfl, by omega, by omega, rfl, HV2, HBIT2, H4, hL3, HNB2, bl2 hbr hb1⟩
      case measure => simp [intOf]; omega
    · obtain rfl : n = 0 := by omega
      have HVL : Hid (b = vb L) := (by have h := HV.out; rw [Int.zero_mul, Int.zero_add] at h; exact h : b = vb L)
      have HB02 := HBIT
      have HB01 : Hid (∀ x ∈ L, 0 ≤ x) := (fun x hx => by rcases HBIT.out x hx with h | h <;> omega : ∀ x ∈ L, 0 ≤ x)
      have HS := HSL
      clear HV HNB HSL HBIT hn n0 n1
      go_wp2
      obtain ⟨wo, rfl⟩ : ∃ wo : World, wo = wr := ⟨_, rfl⟩
      have HBIT := HB01
      have hz0 : Hid (0 * c + 0 = a * vb (L.take 0)) := (by simp [vb] : 0 * c + 0 = a * vb (L.take 0))
      go_loopw [8, 9, 12] (fun vw vr vi wq => ∃ (j : Nat) (Q R : Int), j ≤ L.length ∧ vi = .int .i64 j ∧ vw = .int .i64 Q ∧ vr = .int .i64 R ∧ 0 ≤ R ∧ R < c ∧ 0 ≤ Q ∧ Hid (Q * c + R = a * vb (L.take j)) ∧ Below wo.heap.size wo wq) (fun _ _ vi _ => L.length - (intOf vi).toNat)
      case atStart => exact ⟨0, 0, 0, by omega, rfl, rfl, rfl, by omega, by omega, by omega, hz0, Below.refl _ _⟩
      case round =>
        clear hz0
        obtain ⟨j, Q, R, hj, rfl, rfl, rfl, r0, r1, q0, HE, hbq⟩ := hrel
        by_cases hlt : j < L.length
        · obtain ⟨lb, lo, hq, hlb, hc⟩ := (HS.out.below hbq).int_at hlt
          have hbt := HB02.out _ (List.getElem_mem hlt)
          have hvt := vb_take L j hlt
          obtain ⟨β0, β1⟩ := vb_take_le HB01.out j
          obtain ⟨γ0, γ1⟩ := vb_take_le HB01.out (j + 1)
          rw [← HVL.out] at β1 γ1
          have hQ := HQ.out Q R _ r0 HE.out β0 β1
          simp only [Option.some.injEq] at hq
          subst hq
          have HQ1 := Lib.hid (fun Q' R' (hr : 0 ≤ R') (he : Q' * c + R' = a * vb (L.take (j + 1))) => HQ.out Q' R' _ hr he γ0 γ1)
          obtain ⟨x, hx⟩ : ∃ x, x = L[j] := ⟨_, rfl⟩
          rw [← hx] at hc hbt hvt
          have hj0 : (0 : Int) ≤ (j : Int) := by omega
          have hj1 : (j : Int) < (L.length : Int) := by omega
          have key : ∀ x', x = x' → (2 * Q + x' * (a / c)) * c + (2 * R + x' * (a % c)) = a * vb (L.take (j + 1)) := fun x' e => by
            subst e
            rw [hvt, Int.mul_add, Int.add_mul]
            have h1 := HE.out
            have h2 := HAC.out
            have e1 : 2 * Q * c = 2 * (Q * c) := Int.mul_assoc _ _ _
            have e2 : a * (2 * vb (L.take j)) = 2 * (a * vb (L.take j)) := Int.mul_left_comm _ _ _
            have e3 : x * (a / c) * c = x * (a / c * c) := Int.mul_assoc _ _ _
            have e4 : a * x = x * (a / c * c) + x * (a % c) := by rw [← Int.mul_add, h2, Int.mul_comm]
            rw [e1, e2, e3, e4, ← h1]; omega
          have HNX := Lib.hid hvt
          rcases hbt with rfl | rfl
          · have HK : Hid (2 * Q * c + 2 * R = a * vb (L.take (j + 1))) := (by have h := key 0 rfl; simpa using h : 2 * Q * c + 2 * R = a * vb (L.take (j + 1)))
            clear key hx hvt β0 β1 γ0 γ1
            go_wp2
            have HBQ := Lib.hid hbq
            clear hbq
            go_loopw [8, 9] (fun vw vr wz => ∃ Q' R' : Int, vw = .int .i64 Q' ∧ vr = .int .i64 R' ∧ 0 ≤ R' ∧ R' ≤ 3000000000000000 ∧ 0 ≤ Q' ∧ Hid (Q' * c + R' = a * vb (L.take (j + 1))) ∧ Below wo.heap.size wo wz) (fun _ vr _ => (intOf vr).toNat)
            case atStart => exact ⟨2 * Q, 2 * R, rfl, rfl, by omega, by omega, by omega, HK, by have := HBQ.out; (repeat (first | exact Below.refl _ _ | assumption | (refine Below.alloc ?_ (by first | omega | (simp; omega) | (simp; done)) _) | (refine Below.setCell ?_ (by first | omega | (simp; omega) | (simp; done)) _) | (refine Below.drew ?_) | (refine belowN ?_ _) | (refine Below.trans ?_ (Below.mono ‹Below _ _ _› (by first | omega | (simp; omega) | (simp; done))))))⟩
            case round =>
              clear HK HBQ
              obtain ⟨Q', R', rfl, rfl, s0, s1, t0, HK, hbz⟩ := hrel
              have hQ' := HQ1.out Q' R' s0 HK.out
              by_cases hge : c ≤ R'
              · have HK2 : Hid ((Q' + 1) * c + (R' - c) = a * vb (L.take (j + 1))) := (by rw [← HK.out, Int.add_mul]; omega : (Q' + 1) * c + (R' - c) = a * vb (L.take (j + 1)))
                go_wp2
                go_roundw
                case rel => exact ⟨Q' + 1, R' - c, rfl, rfl, by omega, by omega, by omega, HK2, hbz⟩
                case measure => simp [intOf] <;> omega
              · go_wp2
                go_roundw
                case rel => exact ⟨j + 1, Q', R', by omega, by go_num, rfl, rfl, s0, by omega, t0, HK, hbz⟩
                case measure => simp [intOf] <;> omega
          · have HK : Hid ((2 * Q + a / c) * c + (2 * R + a % c) = a * vb (L.take (j + 1))) := (by have h := key 1 rfl; simpa using h : (2 * Q + a / c) * c + (2 * R + a % c) = a * vb (L.take (j + 1)))
            clear key hx hvt β0 β1 γ0 γ1
            go_wp2
            go_quiet (fail)
            go_wp2
            have HBQ := Lib.hid hbq
            clear hbq
            go_loopw [8, 9] (fun vw vr wz => ∃ Q' R' : Int, vw = .int .i64 Q' ∧ vr = .int .i64 R' ∧ 0 ≤ R' ∧ R' ≤ 3000000000000000 ∧ 0 ≤ Q' ∧ Hid (Q' * c + R' = a * vb (L.take (j + 1))) ∧ Below wo.heap.size wo wz) (fun _ vr _ => (intOf vr).toNat)
            case atStart => exact ⟨2 * Q + a / c, 2 * R + a % c, rfl, rfl, by omega, by omega, by omega, HK, by have := HBQ.out; (repeat (first | exact Below.refl _ _ | assumption | (refine Below.alloc ?_ (by first | omega | (simp; omega) | (simp; done)) _) | (refine Below.setCell ?_ (by first | omega | (simp; omega) | (simp; done)) _) | (refine Below.drew ?_) | (refine belowN ?_ _) | (refine Below.trans ?_ (Below.mono ‹Below _ _ _› (by first | omega | (simp; omega) | (simp; done))))))⟩
            case round =>
              clear HK HBQ
              obtain ⟨Q', R', rfl, rfl, s0, s1, t0, HK, hbz⟩ := hrel
              have hQ' := HQ1.out Q' R' s0 HK.out
              by_cases hge : c ≤ R'
              · have HK2 : Hid ((Q' + 1) * c + (R' - c) = a * vb (L.take (j + 1))) := (by rw [← HK.out, Int.add_mul]; omega : (Q' + 1) * c + (R' - c) = a * vb (L.take (j + 1)))
                go_wp2
                go_roundw
                case rel => exact ⟨Q' + 1, R' - c, rfl, rfl, by omega, by omega, by omega, HK2, hbz⟩
                case measure => simp [intOf] <;> omega
              · go_wp2
                go_roundw
                case rel => exact ⟨j + 1, Q', R', by omega, by go_num, rfl, rfl, s0, by omega, t0, HK, hbz⟩
                case measure => simp [intOf] <;> omega
        · obtain rfl : j = L.length := by omega
          have hfin := HFIN.out Q R (by have h := HE.out; rw [List.take_length, ← HVL.out] at h; exact h) r0 r1
          have HF1 := Lib.hid hfin.1; have HF2 := Lib.hid hfin.2
          clear hfin
          go_wp2
          exact bodyPost_ret (v := .tuple #[.int .i64 Q, .int .i64 R]) (by simp [results, Try.results84, go_sem]) rfl ⟨by rw [← HF1.out, ← HF2.out], bl2 hbr hbq⟩
end Go.Proofs.Ytmfbiohdmhbkoaa
