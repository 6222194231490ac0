/- The law SchoolAdds: the plain law, gathered for the walk. -/
import Derived.Test.YtidlmbajpbbilaaAdA
namespace Go.Proofs.Ytidlmbajpbbilaa
open Go.RowKit

theorem saidL_at (s : Sch) (sets : List Int) (kind : Int) {k i : Nat} (h : i < s.answers.toNat) : (saidL s sets kind k)[i]? = some (cnt (saidR s sets kind i) k) := by simp [saidL, h]
/-- all that the walk wants of the numbers -/
structure AddF (s : Sch) (kind : Int) (x a b : Int) (rest : List Int) (p0 p1 p2 q0 q1 q2 : Int) (L LX LY : List Int) (N : Nat) (PS : Nat → Int) : Prop where
  n : s.answers = N
  nb : N ≤ 20
  cx : countR s kind (a :: rest) = (p0, p1, p2, LX, 0)
  cy : countR s kind (b :: rest) = (q0, q1, q2, LY, 0)
  ca : countR s kind (x :: rest) = (p0 + q0, p1 + q1, p2 + q2, L, 0)
  l : L.length = N
  lx : LX.length = N
  ly : LY.length = N
  at_ : ∀ i, i < N → ∃ u v, LX[i]? = some (u : Int) ∧ LY[i]? = some v ∧ L[i]? = some (u + v) ∧ 0 ≤ u ∧ 0 ≤ v ∧ u ≤ 4096 ∧ v ≤ 4096 ∧ PS (i + 1) = PS i + (u + v)
  z : PS 0 = p1 + q1 + (p2 + q2)
  e : PS N = p0 + q0
  b : ∀ i, 0 ≤ PS i ∧ PS i ≤ 4096
  b0 : 0 ≤ p0 ∧ p0 ≤ 4096 ∧ 0 ≤ q0 ∧ q0 ≤ 4096
  b1 : 0 ≤ p1 ∧ p1 ≤ 4096 ∧ 0 ≤ q1 ∧ q1 ≤ 4096
  b2 : 0 ≤ p2 ∧ p2 ≤ 4096 ∧ 0 ≤ q2 ∧ q2 ≤ 4096
  kt : ∀ A c, ∃ (z1 z2 : Int) (t : Bool), keepsR s [⟨kind, A, c, x :: rest, true, false⟩] = (z1, z2, 0) ∧ (z1 == -1) = t ∧ (p1 + q1 == 0) = t
  kc : ∀ A c, ∃ (z1 z2 : Int) (t : Bool), keepsR s [⟨kind, A, c, x :: rest, false, true⟩] = (z1, z2, 0) ∧ (z1 == -1) = t ∧ (p2 + q2 == 0) = t
theorem keepsR_one {s : Sch} (hv : schB s = true) {q : Clm} (hk : inB q.kind 0 (s.kinds - 1) = true) (hr : regB s q.sets = true) : keepsR s [q] = ((keepsI s [q] 0).1, (keepsI s [q] 0).2, 0) := by
  have hE : claimsE s [q] = 0 := by simp [claimsE, hk, hr]
  simp [keepsR, hv, hE]
theorem add_facts {s : Sch} (hv : schB s = true) (V : Valid s) {kind x part : Int} {rest : List Int} {L : List Int} {a0 a1 a2 : Int} (hx : IsU64 x) (hp : IsU64 part) (hk : inB kind 0 (s.kinds - 1) = true) (hr : regB s (x :: rest) = true)
    (hc : countR s kind (x :: rest) = (a0, a1, a2, L, 0)) :
    ∃ p0 p1 p2 q0 q1 q2 LX LY N PS, AddF s kind x (bits BinOp.and IntKind.u64 x part) (bits BinOp.andNot IntKind.u64 x part) rest p0 p1 p2 q0 q1 q2 L LX LY N PS ∧ a0 = p0 + q0 ∧ a1 = p1 + q1 ∧ a2 = p2 + q2 := by
  have P := parts_of x part hx hp
  obtain ⟨a, ha⟩ : ∃ a, a = bits BinOp.and IntKind.u64 x part := ⟨_, rfl⟩
  obtain ⟨b, hb⟩ : ∃ b, b = bits BinOp.andNot IntKind.u64 x part := ⟨_, rfl⟩
  rw [← ha, ← hb] at P ⊢
  obtain ⟨hra, hrb⟩ := regB_parts P hr
  obtain ⟨e0, e1, e2, e3⟩ := count_parts (s := s) (kind := kind) (rest := rest) V P
  simp only [countR, hv, hk, hr, if_true, Prod.mk.injEq] at hc
  obtain ⟨h0, h1, h2, h3, -⟩ := hc
  have han := V.answers
  obtain ⟨N, hN⟩ := Int.eq_ofNat_of_zero_le (a := s.answers) (by omega)
  have hNt : s.answers.toNat = N := by rw [hN]; simp
  have hC : (chartsC s : Int) ≤ 4096 := by
    have := V.charts; unfold chartsC; omega
  have bd : ∀ p : Nat → Bool, 0 ≤ cnt p (chartsC s) ∧ cnt p (chartsC s) ≤ 4096 := fun p => by have := cnt_bd p (chartsC s); omega
  refine ⟨cnt (inR s (a :: rest)) (chartsC s), cnt (silR s (a :: rest) kind) (chartsC s), cnt (splR s (a :: rest) kind) (chartsC s), cnt (inR s (b :: rest)) (chartsC s), cnt (silR s (b :: rest) kind) (chartsC s), cnt (splR s (b :: rest) kind) (chartsC s),
    saidL s (a :: rest) kind (chartsC s), saidL s (b :: rest) kind (chartsC s), N, fun i => cnt (psR s (x :: rest) kind i) (chartsC s), ?_, by rw [← h0, e0], by rw [← h1, e1], by rw [← h2, e2]⟩
  have ht : ∀ {q : Clm} {v : Int}, cnt (badC s q) (chartsC s) = v → ∃ t : Bool, ((keepsI s [q] 0).1 == -1) = t ∧ (v == 0) = t := fun {q v} e => by
    refine ⟨_, rfl, ?_⟩
    rw [keepsI_one, e]
    by_cases hz : v = 0
    · simp [hz]
    · rw [if_neg hz]; simp [hz]
  refine ⟨hN, by omega, by simp [countR, hv, hk, hra], by simp [countR, hv, hk, hrb], ?_, by rw [← h3, saidL_len, hNt], by rw [saidL_len, hNt], by rw [saidL_len, hNt], fun i hi => ?_, ?_, ?_, fun i => bd _, ⟨(bd _).1, (bd _).2, (bd _).1, (bd _).2⟩, ⟨(bd _).1, (bd _).2, (bd _).1, (bd _).2⟩, ⟨(bd _).1, (bd _).2, (bd _).1, (bd _).2⟩, fun A c => ?_, fun A c => ?_⟩
  · simp only [countR, hv, hk, hr, if_true, e0, e1, e2, h3]
  · rw [← h3, saidL_at s _ _ (by omega), saidL_at s _ _ (by omega), saidL_at s _ _ (by omega), e3 i]
    exact ⟨_, _, rfl, rfl, rfl, (bd _).1, (bd _).1, (bd _).2, (bd _).2, by rw [psR_succ, e3 i]⟩
  · show cnt (psR s (x :: rest) kind 0) (chartsC s) = _
    rw [psR_zero, e1, e2]
  · show cnt (psR s (x :: rest) kind N) (chartsC s) = _
    rw [← hNt, psR_all V, e0]
  · have hb1 : badC s ⟨kind, A, c, x :: rest, true, false⟩ = silR s (x :: rest) kind := by funext k; simp [badC, silR]
    obtain ⟨t, h4, h5⟩ := ht (q := ⟨kind, A, c, x :: rest, true, false⟩) (v := cnt (silR s (a :: rest) kind) (chartsC s) + cnt (silR s (b :: rest) kind) (chartsC s)) (by rw [hb1, e1])
    exact ⟨_, _, t, keepsR_one hv hk hr, h4, h5⟩
  · have hb1 : badC s ⟨kind, A, c, x :: rest, false, true⟩ = splR s (x :: rest) kind := by funext k; simp [badC, splR]
    obtain ⟨t, h4, h5⟩ := ht (q := ⟨kind, A, c, x :: rest, false, true⟩) (v := cnt (splR s (a :: rest) kind) (chartsC s) + cnt (splR s (b :: rest) kind) (chartsC s)) (by rw [hb1, e2])
    exact ⟨_, _, t, keepsR_one hv hk hr, h4, h5⟩
theorem count_err {s : Sch} {kind : Int} {sets L : List Int} {a0 a1 a2 er : Int} (h : countR s kind sets = (a0, a1, a2, L, er)) (he : er ≠ 0) : a0 = 0 := by
  unfold countR at h
  split at h
  · split at h
    · split at h
      · simp only [Prod.mk.injEq] at h; exact absurd h.2.2.2.2.symm he
      · simp only [Prod.mk.injEq] at h; exact h.1.symm
    · simp only [Prod.mk.injEq] at h; exact h.1.symm
  · simp only [Prod.mk.injEq] at h; exact h.1.symm
theorem count_okk {s : Sch} {kind : Int} {sets L : List Int} {a0 a1 a2 : Int} (h : countR s kind sets = (a0, a1, a2, L, 0)) : schB s = true ∧ inB kind 0 (s.kinds - 1) = true ∧ regB s sets = true := by
  unfold countR at h
  split at h
  · split at h
    · split at h
      · exact ⟨‹_›, ‹_›, ‹_›⟩
      · simp only [Prod.mk.injEq] at h; exact absurd h.2.2.2.2 (by decide)
    · simp only [Prod.mk.injEq] at h; exact absurd h.2.2.2.2 (by decide)
  · simp only [Prod.mk.injEq] at h; exact absurd h.2.2.2.2 (by decide)
end Go.Proofs.Ytidlmbajpbbilaa
