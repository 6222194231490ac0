/- habit, plain: chances as fractions, and their sums. -/
import Derived.Test.YtiikkcifdhcejaaZ18Hf
namespace Go.Proofs.Ytiikkcifdhcejaa

/-- a fraction -/
def ratV (n d : Int) : Rat := (n : Rat) / (d : Rat)
theorem cast_ne {d : Int} (h : 1 ≤ d) : (d : Rat) ≠ 0 := fun h9 => by
  have := Rat.intCast_eq_zero_iff.1 h9
  omega
theorem ratV_eq {n d m e : Int} (hd : 1 ≤ d) (he : 1 ≤ e) : ratV n d = ratV m e ↔ n * e = m * d := by
  unfold ratV
  have h1 := cast_ne hd; have h2 := cast_ne he
  constructor
  · intro h
    have h3 : (n : Rat) * (e : Rat) = (m : Rat) * (d : Rat) := by grind
    rw [← Rat.intCast_mul, ← Rat.intCast_mul] at h3
    exact Rat.intCast_inj.1 h3
  · intro h
    have h3 : ((n * e : Int) : Rat) = ((m * d : Int) : Rat) := by rw [h]
    rw [Rat.intCast_mul, Rat.intCast_mul] at h3
    grind
theorem prR_eq : ∀ {l : List (Int × Int)}, (∀ x ∈ l, 1 ≤ x.2) → prR l = ratV (prW l) (prS l)
  | [], _ => by simp [prR, prW, prS, ratV]; grind
  | (w, s) :: t, h => by
    have ih := prR_eq (l := t) fun x hx => h x (by simp [hx])
    have hs : 1 ≤ s := h (w, s) (by simp)
    have hp := prS_pos (l := t) fun x hx => h x (by simp [hx])
    simp only [prR, prW, prS, ih, ratV, Rat.intCast_mul]
    have h1 := cast_ne hs; have h2 := cast_ne (show 1 ≤ prS t by omega)
    grind
theorem chGo_rat {l : List (Int × Int)} {n d : Int} (hg : GoOk l) (hs : ∀ x ∈ l, 1 ≤ x.2) (h : chGo l ⟨1, 1⟩ = (n, d, 0)) : OkC ⟨n, d⟩ ∧ ratV n d = prR l := by
  obtain ⟨o, v⟩ := chGo_val l _ hg ok_one h
  have d1 := o.d1
  have hp := prS_pos hs
  simp only at d1
  refine ⟨o, ?_⟩
  rw [prR_eq hs, ratV_eq d1 (by omega)]
  simp only [Int.one_mul] at v
  rw [v, Int.mul_comm]
theorem ratD_le {n d : Int} (hd : 0 < d) : ratD n d ≤ d := Int.ediv_le_self _ (by omega)
/-- small sums are never refused -/
theorem chGo_small (b : Int) (hb : 1 ≤ b) : ∀ (l : List (Int × Int)) (c : Ch), GoOk l → OkC c → (∀ x ∈ l, x.2 ≤ b) → c.d * b ^ l.length ≤ 1000000000000000 → (chGo l c).2.2 = 0
  | [], c, _, _, _, _ => rfl
  | (w, s) :: t, c, hg, hc, hs, hle => by
    obtain ⟨h1, h2, h3, h4, h5⟩ := hg
    have hsb : s ≤ b := hs (w, s) (by simp)
    simp only [chGo]
    by_cases hw : w = 0
    · rw [if_pos hw]
    · rw [if_neg hw]
      have o := rat_ok h1 (show 0 < s by omega) h2 (by omega)
      have hcd := hc.d1
      have hrd : ratD w s ≤ b := Int.le_trans (ratD_le (by omega)) hsb
      have ho1 := o.d1
      simp only at ho1
      have hpw : 1 ≤ b ^ t.length := Int.pow_pos (by omega)
      rw [List.length_cons, Int.pow_succ] at hle
      have e1 : ratD c.n (ratD w s) * ratD (ratN w s) c.d ≤ c.d * b := by
        have a1 : ratD c.n (ratD w s) ≤ b := Int.le_trans (ratD_le (by omega)) hrd
        have a2 : ratD (ratN w s) c.d ≤ c.d := ratD_le (by omega)
        have a3 : 0 ≤ ratD (ratN w s) c.d := Int.ediv_nonneg (by omega) (Int.natCast_nonneg _)
        have a4 := Int.mul_le_mul a1 a2 a3 (by omega)
        rw [Int.mul_comm b] at a4
        exact a4
      have e2 : c.d * b * 1 ≤ c.d * b * b ^ t.length := Int.mul_le_mul_of_nonneg_left hpw (Int.mul_nonneg (by omega) (by omega))
      have e3 : c.d * (b ^ t.length * b) = c.d * b * b ^ t.length := by ac_rfl
      have hbo : (bothR c ⟨ratN w s, ratD w s⟩).2.2 = 0 ∧ (bothR c ⟨ratN w s, ratD w s⟩).2.1 ≤ c.d * b := by
        unfold bothR
        rw [if_pos (okP_iff.2 ⟨hc, o⟩)]
        simp only
        rw [if_pos (by omega)]
        exact ⟨rfl, e1⟩
      rw [if_pos hbo.1]
      obtain ⟨_, _, o3, _⟩ := both_ok hbo.1
      refine chGo_small b hb t _ (h5 hw) o3 (fun x hx => hs x (by simp [hx])) ?_
      have e4 := Int.mul_le_mul_of_nonneg_right hbo.2 (show 0 ≤ b ^ t.length by omega)
      simp only
      omega
theorem ratV_le {n d m e : Int} (hd : 1 ≤ d) (he : 1 ≤ e) : ratV n d ≤ ratV m e ↔ n * e ≤ m * d := by
  unfold ratV
  have h1 : (0 : Rat) < (d : Rat) := by
    have := Rat.intCast_lt_intCast.2 (show (0 : Int) < d by omega); simpa using this
  have h2 : (0 : Rat) < (e : Rat) := by
    have := Rat.intCast_lt_intCast.2 (show (0 : Int) < e by omega); simpa using this
  have hp : (0 : Rat) < (d : Rat) * (e : Rat) := Rat.mul_pos h1 h2
  have e1 : (n : Rat) / (d : Rat) * ((d : Rat) * (e : Rat)) = (n : Rat) * (e : Rat) := by
    have := cast_ne hd; grind
  have e2 : (m : Rat) / (e : Rat) * ((d : Rat) * (e : Rat)) = (m : Rat) * (d : Rat) := by
    have := cast_ne he; grind
  have h3 : (n : Rat) * (e : Rat) ≤ (m : Rat) * (d : Rat) ↔ n * e ≤ m * d := by
    rw [← Rat.intCast_mul, ← Rat.intCast_mul, Rat.intCast_le_intCast]
  rw [← h3]
  constructor
  · intro h
    have := Rat.mul_le_mul_of_nonneg_right h (Rat.le_of_lt hp)
    rwa [e1, e2] at this
  · intro h
    refine Rat.le_of_mul_le_mul_right ?_ hp
    rwa [e1, e2]
/-- a sum of chances that is not above 1: it is told, or too great to be told -/
theorem either_rat {a b : Ch} (ha : OkC a) (hb : OkC b) (h : ratV a.n a.d + ratV b.n b.d ≤ 1) : (eitherR a b).2.2 = 10 ∨ (∃ N D, eitherR a b = (N, D, 0) ∧ OkC ⟨N, D⟩ ∧ ratV N D = ratV a.n a.d + ratV b.n b.d) := by
  have a1 := ha.d1; have b1 := hb.d1
  have hab : 1 ≤ a.d * b.d := Int.mul_pos (by omega) (by omega)
  have hsum : ratV a.n a.d + ratV b.n b.d = ratV (a.n * b.d + b.n * a.d) (a.d * b.d) := by
    unfold ratV
    rw [Rat.intCast_add, Rat.intCast_mul, Rat.intCast_mul, Rat.intCast_mul]
    have h1 := cast_ne a1; have h2 := cast_ne b1
    grind
  rw [hsum] at h ⊢
  have hone : (1 : Rat) = ratV 1 1 := by unfold ratV; simp; grind
  rw [hone, ratV_le hab (by omega)] at h
  by_cases he : (eitherR a b).2.2 = 0
  · right
    obtain ⟨_, _, o, v⟩ := either_ok he
    have od := o.d1
    refine ⟨(eitherR a b).1, (eitherR a b).2.1, by rw [← he], o, ?_⟩
    rw [ratV_eq od hab, v, Int.mul_comm]
  · left
    unfold eitherR at he ⊢
    rw [if_pos (okP_iff.2 ⟨ha, hb⟩)] at he ⊢
    have hno : ¬ (b.d - b.n) * a.d < a.n * b.d := by
      rw [Int.sub_mul, Int.mul_comm b.d a.d]; omega
    rw [if_neg hno] at he ⊢
    split at he
    · simp at he
    · rename_i hc; rw [if_neg hc]
end Go.Proofs.Ytiikkcifdhcejaa
