/- Helpers of the laws: small. -/
import Derived.Test.YtidlmbajpbbilaaHlC
namespace Go.Proofs.Ytidlmbajpbbilaa
open Go.RowKit

def smR0 (A : Option Addr) (c : Nat) : Rul := ⟨A, c, [⟨1, 0, 0, 3⟩], 1, 0, none, 0, [], 0⟩
def smR1 (A : Option Addr) (c : Nat) : Rul := ⟨A, c, [⟨2, 0, 1, 0⟩], 1, 1, none, 0, [], 1⟩
def smR2 (A : Option Addr) (c : Nat) (A2 : Option Addr) (c2 : Nat) : Rul := ⟨A, c, [⟨1, 1, 0, 4⟩], 1, 0, A2, c2, [1], 2⟩
abbrev smS (ra : Option Addr) (rc : Nat) (A0 : Option Addr) (c0 : Nat) (A1 : Option Addr) (c1 : Nat) (A2 : Option Addr) (c2 : Nat) (A3 : Option Addr) (c3 : Nat) : Sch := ⟨2, 3, 1, 3, ra, rc, [smR0 A0 c0, smR1 A1 c1, smR2 A2 c2 A3 c3]⟩
def RetSmall (w : World) (e : Ending) (w' : World) : Prop := ∃ ra rc A0 c0 A1 c1 A2 c2 A3 c3, e = .returned (scv (smS ra rc A0 c0 A1 c1 A2 c2 A3 c3) (smS ra rc A0 c0 A1 c1 A2 c2 A3 c3).rv) ∧ (smS ra rc A0 c0 A1 c1 A2 c2 A3 c3).reads w' w'.heap.size ∧ Below w.heap.size w w'
theorem sl_one {α : Type} {f : α → List Value} {size : Nat} {W : World} {b t : Nat} {l : List α} {cs : Array Value} (h : Blk W b cs t) (hl : (flat f l).length = l.length * size) (hcs : (flat f l).toArray = cs) : Sl f size W W.heap.size (some ⟨b, 0, none⟩) l := by
  refine ⟨hl, fun _ => ⟨b, 0, rfl, h.lt, fun j u hu => ?_⟩⟩
  rw [Nat.zero_add, h.cell j, ← hcs]; simpa using hu
theorem sl_nil {α : Type} {f : α → List Value} {size : Nat} {W : World} {B : Nat} : Sl f size W B none [] := ⟨by simp [flat], fun h => by simp at h⟩

set_option maxRecDepth 100000 in
set_option maxHeartbeats 4000000 in
theorem small_any (w : World) : Calls Try.prog 50 #[] w (RetSmall w) := by
  go_enter Try.func50, Try.ntmps50
  go_wp2
  refine gen_w (fun W => Blk W w.heap.size #[.int .i64 2, .int .i64 3, .int .i64 1, .int .i64 3, .slice (some ⟨w.heap.size + 1 + 1 + 1 + 1 + 1, 0, none⟩) 3 3] 24 ∧
    Blk W (w.heap.size + 1) #[.int .i64 1, .int .i64 0, .int .i64 0, .int .u64 3] 103 ∧ Blk W (w.heap.size + 1 + 1) #[.int .i64 2, .int .i64 0, .int .i64 1, .int .u64 0] 103 ∧ Blk W (w.heap.size + 1 + 1 + 1) #[.int .i64 1, .int .i64 1, .int .i64 0, .int .u64 4] 103 ∧ Blk W (w.heap.size + 1 + 1 + 1 + 1) #[.int .i64 1] 3 ∧
    Blk W (w.heap.size + 1 + 1 + 1 + 1 + 1) #[.slice (some ⟨w.heap.size + 1, 0, none⟩) 1 1, .int .i64 1, .int .i64 0, .slice none 0 0, .int .i64 0, .slice (some ⟨w.heap.size + 1 + 1, 0, none⟩) 1 1, .int .i64 1, .int .i64 1, .slice none 0 0, .int .i64 1, .slice (some ⟨w.heap.size + 1 + 1 + 1, 0, none⟩) 1 1, .int .i64 1, .int .i64 0, .slice (some ⟨w.heap.size + 1 + 1 + 1 + 1, 0, none⟩) 1 1, .int .i64 2] 82 ∧ Below w.heap.size w W) ?_ ?_
  · refine ⟨(((((Blk.at_ rfl).alloc _).alloc _).alloc _).alloc _).alloc _, ((((Blk.at_ (by simp)).alloc _).alloc _).alloc _).alloc _, (((Blk.at_ (by simp)).alloc _).alloc _).alloc _, ((Blk.at_ (by simp)).alloc _).alloc _, (Blk.at_ (by simp)).alloc _, Blk.at_ (by simp), by (repeat (first | exact Below.refl _ _ | assumption | (refine Below.alloc ?_ (by first | omega | (simp; omega) | (simp; done)) _) | (refine Below.setCell ?_ (by first | omega | (simp; omega) | (simp; done)) _) | (refine Below.drew ?_) | (refine belowN ?_ _) | (refine Below.trans ?_ (Below.mono ‹Below _ _ _› (by first | omega | (simp; omega) | (simp; done))))))⟩
  rintro W ⟨g0, g1, g2, g3, g4, g5, hb⟩
  have e0 := g0.cell 0
  have e1 := g0.cell 1
  have e2 := g0.cell 2
  have e3 := g0.cell 3
  have e4 := g0.cell 4
  simp at e0 e1 e2 e3 e4
  refine bodyPost_ret (v := .agg #[.int .i64 2, .int .i64 3, .int .i64 1, .int .i64 3, .slice (some ⟨w.heap.size + 1 + 1 + 1 + 1 + 1, 0, none⟩) 3 3]) (by simp [results, Try.results50, go_sem, e0, e1, e2, e3, e4]) rfl ?_
  refine ⟨some ⟨w.heap.size + 1 + 1 + 1 + 1 + 1, 0, none⟩, 3, some ⟨w.heap.size + 1, 0, none⟩, 1, some ⟨w.heap.size + 1 + 1, 0, none⟩, 1, some ⟨w.heap.size + 1 + 1 + 1, 0, none⟩, 1, some ⟨w.heap.size + 1 + 1 + 1 + 1, 0, none⟩, 1, rfl, ⟨sl_one g5 rfl rfl, by simp, fun r hr => ?_⟩, hb⟩
  simp only [List.mem_cons, List.not_mem_nil, or_false] at hr
  rcases hr with rfl | rfl | rfl
  · exact ⟨sl_one g1 rfl rfl, sl_nil, by simp [smR0], by simp [smR0], by simp [smR0, Tst.ok, Value.oneCell']⟩
  · exact ⟨sl_one g2 rfl rfl, sl_nil, by simp [smR1], by simp [smR1], by simp [smR1, Tst.ok, Value.oneCell']⟩
  · exact ⟨sl_one g3 rfl rfl, sl_one g4 rfl rfl, by simp [smR2], by simp [smR2], by simp [smR2, Tst.ok, Value.oneCell']⟩
end Go.Proofs.Ytidlmbajpbbilaa
