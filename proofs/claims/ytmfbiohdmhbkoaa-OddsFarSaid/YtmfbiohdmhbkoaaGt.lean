/- odds: how many bits a number has (turned from the shelf's templates). -/
import Derived.Test.YtmfbiohdmhbkoaaGa
import Derived.Lib.Strings
import Derived.Lib.Slices
import Derived.Lib.Small
import Derived.Lib.Walk
import Derived.Lib.BitFns
namespace Go.Proofs.Ytmfbiohdmhbkoaa
open Go.RowKit

theorem tabN {i : Int} (h : 0 ≤ i) (h' : i < 256) (hs : i.toNat < Lib.len8tab.size) : ((Lib.len8tab[i.toNat]'hs).toNat : Int) = (Lib.bitLen i.toNat : Int) := by
  rw [← Lib.len8_of i h (by omega)]
  unfold Lib.len8
  rw [getElem?_pos Lib.len8tab i.toNat hs]
  rfl
theorem tabS {i x : Int} (n : Nat) {k : Nat} {hs : i.toNat < Lib.len8tab.size} (h : 0 ≤ i) (h' : i < 256) (e : i.toNat = x.toNat / k) (s : Lib.bitLen x.toNat = n + Lib.bitLen (x.toNat / k)) (hn : n ≤ 56 := by omega) :
    wrap64 ((n : Int) + wrap64 ((Lib.len8tab[i.toNat]'hs).toNat : Int)) = (Lib.bitLen x.toNat : Int) := by
  rw [tabN h h' hs]
  have l := Lib.bitLen_le8' i h (by omega)
  rw [s, ← e]
  unfold wrap64
  omega
theorem tabS0 {x : Int} {hs : x.toNat < Lib.len8tab.size} (h : 0 ≤ x) (h' : x < 256) : wrap64 (wrap64 ((Lib.len8tab[x.toNat]'hs).toNat : Int)) = (Lib.bitLen x.toNat : Int) := by
  rw [tabN h h' hs]
  have l := Lib.bitLen_le8' x h (by omega)
  unfold wrap64
  omega
set_option maxHeartbeats 4000000 in
set_option maxRecDepth 100000 in
theorem len64_any (x : Int) (w : World) (h0 : 0 ≤ x) (h1 : x ≤ 18446744073709551615) :
    Calls Try.prog 107 #[.int .u64 x] w fun e w' => e = .returned (.int .i64 (Lib.bitLen x.toNat)) ∧ w' = w := by
  have hsz := Lib.len8tab_size
  go_enter Try.func107, Try.ntmps107
  go_wp2
  all_goals (go_ret; refine ⟨congrArg Ending.returned (congrArg (Value.int IntKind.i64) ?_), rfl⟩)
  all_goals first
    | exact tabS (i := x / 4294967296 / 65536 / 256) 56 (by omega) (by omega) (show (x / 4294967296 / 65536 / 256).toNat = x.toNat / 72057594037927936 by omega) (Lib.bitLen_shift56 x.toNat (by omega) (by omega))
    | exact tabS (i := x / 4294967296 / 65536) 48 (by omega) (by omega) (show (x / 4294967296 / 65536).toNat = x.toNat / 281474976710656 by omega) (Lib.bitLen_shift48 x.toNat (by omega) (by omega))
    | exact tabS (i := x / 4294967296 / 256) 40 (by omega) (by omega) (show (x / 4294967296 / 256).toNat = x.toNat / 1099511627776 by omega) (Lib.bitLen_shift40 x.toNat (by omega) (by omega))
    | exact tabS (i := x / 4294967296) 32 (by omega) (by omega) (show (x / 4294967296).toNat = x.toNat / 4294967296 by omega) (Lib.bitLen_shift32 x.toNat (by omega) (by omega))
    | exact tabS (i := x / 65536 / 256) 24 (by omega) (by omega) (show (x / 65536 / 256).toNat = x.toNat / 16777216 by omega) (Lib.bitLen_shift24 x.toNat (by omega) (by omega))
    | exact tabS (i := x / 65536) 16 (by omega) (by omega) (show (x / 65536).toNat = x.toNat / 65536 by omega) (Lib.bitLen_shift16 x.toNat (by omega) (by omega))
    | exact tabS (i := x / 256) 8 (by omega) (by omega) (show (x / 256).toNat = x.toNat / 256 by omega) (Lib.bitLen_shift8 x.toNat (by omega) (by omega))
    | exact tabS0 (by omega) (by omega)
theorem bitLen_le64 (x : Int) (h0 : 0 ≤ x) (h1 : x ≤ 18446744073709551615) : Lib.bitLen x.toNat ≤ 64 := Lib.bitLen_le x.toNat 64 (by omega) (by omega)

theorem lz64_any (x : Int) (w : World) (h0 : 0 ≤ x) (h1 : x ≤ 18446744073709551615) :
    Calls Try.prog 106 #[.int .u64 x] w fun e w' => e = .returned (.int .i64 (64 - (Lib.bitLen x.toNat : Int))) ∧ w' = w := by
  have l := bitLen_le64 x h0 h1
  have e8 : (64 - (Lib.bitLen x.toNat : Int) + 9223372036854775808) % 18446744073709551616 - 9223372036854775808 = 64 - (Lib.bitLen x.toNat : Int) := by omega
  go_enter Try.func106, Try.ntmps106
  go_wp2_with (go_at_call 107; refine (len64_any x _ h0 h1).mono ?_; rintro e w' ⟨rfl, rfl⟩)
  go_ret
  refine ⟨?_, rfl⟩
  rw [← e8]
  rfl

end Go.Proofs.Ytmfbiohdmhbkoaa
