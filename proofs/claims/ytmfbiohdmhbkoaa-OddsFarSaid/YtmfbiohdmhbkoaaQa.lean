/- Plain: chances by their values: numbers in lowest terms that are equal crosswise are the same. -/
import Derived.Test.YtmfbiohdmhbkoaaPz
import Derived.Test.YtmfbiohdmhbkoaaPv
namespace Go.Proofs.Ytmfbiohdmhbkoaa

/-- nothing but 1 divides both -/
def Co (a b : Int) : Prop := 0 ≤ a ∧ 0 ≤ b ∧ gI a b = 1
theorem co_nat {a b : Nat} : Co a b ↔ Nat.Coprime a b := by
  unfold Co gI Nat.Coprime
  rw [Int.toNat_natCast, Int.toNat_natCast]
  constructor
  · rintro ⟨_, _, h⟩; exact_mod_cast h
  · intro h; exact ⟨by omega, by omega, by exact_mod_cast h⟩
theorem Co.nat {a b : Int} (h : Co a b) : ∃ m n : Nat, a = m ∧ b = n ∧ Nat.Coprime m n := by
  obtain ⟨ha, hb, _⟩ := id h
  obtain ⟨m, rfl⟩ := Int.eq_ofNat_of_zero_le ha
  obtain ⟨n, rfl⟩ := Int.eq_ofNat_of_zero_le hb
  exact ⟨m, n, rfl, rfl, co_nat.1 h⟩
theorem Co.symm {a b : Int} (h : Co a b) : Co b a := by
  obtain ⟨m, n, rfl, rfl, h'⟩ := h.nat
  exact co_nat.2 h'.symm
theorem Co.of_dvd {a b c : Int} (h : Co a b) (hc : 0 ≤ c) (hd : c ∣ a) : Co c b := by
  obtain ⟨m, n, rfl, rfl, h'⟩ := h.nat
  obtain ⟨c, rfl⟩ := Int.eq_ofNat_of_zero_le hc
  exact co_nat.2 (Nat.Coprime.coprime_dvd_left (Int.natCast_dvd_natCast.1 hd) h')
theorem Co.mul {a b c : Int} (h1 : Co a c) (h2 : Co b c) : Co (a * b) c := by
  obtain ⟨m, n, rfl, rfl, h1'⟩ := h1.nat
  obtain ⟨k, n', rfl, hn, h2'⟩ := h2.nat
  have : n = n' := by omega
  subst this
  rw [← Int.natCast_mul]
  exact co_nat.2 (Nat.Coprime.mul_left h1' h2')
theorem Co.dvd {a b c : Int} (h : Co a b) (hc : 0 ≤ c) (hd : a ∣ b * c) : a ∣ c := by
  obtain ⟨m, n, rfl, rfl, h'⟩ := h.nat
  obtain ⟨c, rfl⟩ := Int.eq_ofNat_of_zero_le hc
  rw [← Int.natCast_mul] at hd
  exact Int.natCast_dvd_natCast.2 (Nat.Coprime.dvd_of_dvd_mul_left h' (Int.natCast_dvd_natCast.1 hd))
theorem Co.add {a b k : Int} (h : Co a b) (hk : 0 ≤ k) : Co (a + b * k) b := by
  obtain ⟨m, n, rfl, rfl, h'⟩ := h.nat
  obtain ⟨k, rfl⟩ := Int.eq_ofNat_of_zero_le hk
  rw [← Int.natCast_mul, ← Int.natCast_add]
  refine co_nat.2 ?_
  unfold Nat.Coprime at h' ⊢
  rw [Nat.gcd_add_mul_left_left]; exact h'
theorem co_div {a b : Int} (ha : 0 ≤ a) (hb : 0 ≤ b) (hg : 0 < gI a b) : Co (a / gI a b) (b / gI a b) := by
  obtain ⟨m, rfl⟩ := Int.eq_ofNat_of_zero_le ha
  obtain ⟨n, rfl⟩ := Int.eq_ofNat_of_zero_le hb
  unfold gI at hg ⊢
  rw [Int.toNat_natCast, Int.toNat_natCast] at hg ⊢
  rw [← Int.natCast_ediv, ← Int.natCast_ediv]
  exact co_nat.2 (Nat.coprime_div_gcd_div_gcd (by omega))
theorem OkC.co {x : Ch} (h : OkC x) : Co x.n x.d := ⟨h.n0, by have := h.d1; omega, h.g⟩
theorem ok_mk {n d : Int} (h : Co n d) (d1 : 1 ≤ d) (d2 : d ≤ 1000000000000000) (nd : n ≤ d) : OkC ⟨n, d⟩ := ⟨d1, d2, h.1, nd, h.2.2⟩
/-- fractions in lowest terms are told by their values -/
theorem co_unique {n d m e : Int} (h1 : Co n d) (h2 : Co m e) (hd : 0 < d) (he : 0 < e) (h : n * e = m * d) : n = m ∧ d = e := by
  have a1 : d ∣ e := h1.symm.dvd (by omega) ⟨m, by rw [h, Int.mul_comm]⟩
  have a2 : e ∣ d := h2.symm.dvd (by omega) ⟨n, by rw [← h, Int.mul_comm]⟩
  have e1 := Int.le_of_dvd he a1
  have e2 := Int.le_of_dvd hd a2
  have e3 : d = e := by omega
  subst e3
  exact ⟨Int.eq_of_mul_eq_mul_right (by omega) h, rfl⟩
/-- a fraction in lowest terms -/
theorem rat_cross {n d : Int} (hn : 0 ≤ n) (hd : 0 < d) : ratN n d * d = n * ratD n d := by
  have g : 0 < gI n d := gI_pos (.inr hd)
  obtain ⟨a, ha⟩ := gI_dvd_left (b := d) hn
  obtain ⟨b, hb⟩ := gI_dvd_right (a := n) (show 0 ≤ d by omega)
  have e1 : ratN n d = a := by unfold ratN; conv => lhs; arg 1; rw [ha]
                               rw [Int.mul_ediv_cancel_left _ (by omega)]
  have e2 : ratD n d = b := by unfold ratD; conv => lhs; arg 1; rw [hb]
                               rw [Int.mul_ediv_cancel_left _ (by omega)]
  rw [e1, e2]
  conv => lhs; arg 2; rw [hb]
  conv => rhs; arg 1; rw [ha]
  ac_rfl
theorem rat_ok {n d : Int} (hn : 0 ≤ n) (hd : 0 < d) (hnd : n ≤ d) (hd2 : d ≤ 1000000000000000) : OkC ⟨ratN n d, ratD n d⟩ := by
  have g : 0 < gI n d := gI_pos (.inr hd)
  have c : Co (ratN n d) (ratD n d) := co_div hn (by omega) g
  have gl := gI_le_right n hd
  refine ok_mk c (Int.le_ediv_of_mul_le g (by omega)) (Int.le_trans (Int.ediv_le_self _ (by omega)) hd2) ?_
  exact Int.ediv_le_ediv g hnd
theorem rat_unique {n d N D : Int} (hn : 0 ≤ n) (hd : 0 < d) (hnd : n ≤ d) (hd2 : d ≤ 1000000000000000) (h : Co N D) (hD : 0 < D) (e : N * d = n * D) : ratN n d = N ∧ ratD n d = D := by
  have o := rat_ok hn hd hnd hd2
  refine co_unique o.co h (by have := o.d1; exact this) hD ?_
  have c := rat_cross hn hd
  show ratN n d * D = N * ratD n d
  apply Int.eq_of_mul_eq_mul_right (a := d) (by omega)
  calc ratN n d * D * d = ratN n d * d * D := by ac_rfl
    _ = n * ratD n d * D := by rw [c]
    _ = n * D * ratD n d := by ac_rfl
    _ = N * d * ratD n d := by rw [e]
    _ = N * ratD n d * d := by ac_rfl
/-- a sum of chances is in lowest terms -/
theorem either_low {a b : Ch} (ha : OkC a) (hb : OkC b) : Co (eN a b / eH a b) (eD a b) ∧ eN a b / eH a b * (a.d * b.d) = eD a b * (a.n * b.d + b.n * a.d) := by
  have e := ef_of ha hb
  obtain ⟨d1, d2⟩ := eH_dvd ha hb
  have h1 := e.h1; have g1 := e.g1; have p1 := e.p1; have q1 := e.q1; have n0 := e.n0; have gh1 := e.gh1
  have a0 := ha.n0; have b0 := hb.n0; have ad := ha.d1; have bd := hb.d1
  have k1 : eN a b * eG a b = a.n * b.d + b.n * a.d := by
    have h2 : eN a b = a.n * eQ a b + b.n * eP a b := rfl
    rw [h2, ← e.pa, ← e.qb, Int.add_mul]; congr 1 <;> ac_rfl
  have k2 : eN a b / eH a b * eG a b = eN a b * (eG a b / eH a b) := by
    obtain ⟨x, hx⟩ := d1
    obtain ⟨y, hy⟩ := d2
    rw [hx, hy, Int.mul_ediv_cancel_left _ (by omega), Int.mul_ediv_cancel_left _ (by omega)]
    ac_rfl
  refine ⟨?_, ?_⟩
  · have cPQ : Co (eP a b) (eQ a b) := co_div (by omega) (by omega) (gI_pos (.inl (by omega)))
    have cnP : Co a.n (eP a b) := (ha.co.symm.of_dvd (by omega) ⟨eG a b, e.pa.symm⟩).symm
    have cmQ : Co b.n (eQ a b) := (hb.co.symm.of_dvd (by omega) ⟨eG a b, e.qb.symm⟩).symm
    have cNP : Co (eN a b) (eP a b) := by
      have := (cnP.mul cPQ.symm).add b0
      have h2 : eN a b = a.n * eQ a b + eP a b * b.n := by rw [show eN a b = a.n * eQ a b + b.n * eP a b from rfl, Int.mul_comm b.n]
      rw [h2]; exact this
    have cNQ : Co (eN a b) (eQ a b) := by
      have := (cmQ.mul cPQ).add a0
      have h2 : eN a b = b.n * eP a b + eQ a b * a.n := by rw [show eN a b = a.n * eQ a b + b.n * eP a b from rfl, Int.mul_comm a.n, Int.add_comm]
      rw [h2]; exact this
    have hH : eH a b = gI (eN a b) (eG a b) := by
      unfold eH
      rw [gI_comm, gI_step n0 (by omega)]
    have cNg : Co (eN a b / eH a b) (eG a b / eH a b) := by
      rw [hH]; exact co_div n0 (by omega) (by rw [← hH]; omega)
    have nn0 : 0 ≤ eN a b / eH a b := Int.ediv_nonneg n0 (by omega)
    have dv : eN a b / eH a b ∣ eN a b := ⟨eH a b, (Int.ediv_mul_cancel d1).symm⟩
    have c1 := (cNP.of_dvd nn0 dv).symm.mul (cNQ.of_dvd nn0 dv).symm
    exact (c1.mul cNg.symm).symm
  · have k3 : a.d * b.d = eP a b * eG a b * (eQ a b * eG a b) := by rw [e.pa, e.qb]
    rw [← k1, k3]
    show eN a b / eH a b * (eP a b * eG a b * (eQ a b * eG a b)) = eP a b * eQ a b * (eG a b / eH a b) * (eN a b * eG a b)
    have k4 : eN a b / eH a b * (eP a b * eG a b * (eQ a b * eG a b)) = eN a b / eH a b * eG a b * (eP a b * eQ a b * eG a b) := by ac_rfl
    rw [k4, k2]; ac_rfl
end Go.Proofs.Ytmfbiohdmhbkoaa
