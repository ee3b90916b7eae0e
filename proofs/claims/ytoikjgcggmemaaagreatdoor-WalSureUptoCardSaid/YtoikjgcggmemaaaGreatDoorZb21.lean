/- Lemmas and contracts, part 21. -/
import Derived.Test.YtoikjgcggmemaaaGreatDoorZb20
import Derived.Shelf.Strconv.Itoa0
import Derived.Shelf.Strconv.Itoa1
import Derived.Shelf.LaysM
import Derived.Shelf.Strconv.Itoa2
import Derived.Shelf.Strconv.Itoa3
import Derived.Test.YtoikjgcggmemaaaGreatDoorProg
/- The library's contracts (strings.Join, strconv.Itoa and what they call) laid at this program, in plain words, by the kit's tools. -/
namespace Go.Proofs
open Go.Shelf
def Tryz.lays129_ren : Go.Shelf.Ren := ⟨fun | 129 => 105 | n => n, fun | 53 => 87 | 3 => 3 | 4 => 4 | 46 => 95 | 5 => 5 | 9 => 9 | n => n, fun | n => n⟩
theorem Tryz.lays129 : Go.Proofs.Lays.n129 Tryz.prog Tryz.lays129_ren := {
  mixed := by kernel_rfl
  f129 := Tryz.func105.trans (congrArg some (by kernel_rfl))
  t3 := Tryz.underlying3
  a3 := Tryz.isAgg3
  z3 := Tryz.sizeOf3
  v3 := Tryz.zeroValue3
  t4 := Tryz.underlying4
  a4 := Tryz.isAgg4
  z4 := Tryz.sizeOf4
  v4 := Tryz.zeroValue4
  t5 := Tryz.underlying5
  a5 := Tryz.isAgg5
  z5 := Tryz.sizeOf5
  v5 := Tryz.zeroValue5
  t9 := Tryz.underlying9
  a9 := Tryz.isAgg9
  z9 := Tryz.sizeOf9
  v9 := Tryz.zeroValue9
  t46 := Tryz.underlying95
  a46 := Tryz.isAgg95
  z46 := Tryz.sizeOf95
  v46 := Tryz.zeroValue95
  t53 := Tryz.underlying87
  a53 := Tryz.isAgg87
  z53 := Tryz.sizeOf87
  v53 := Tryz.zeroValue87 }
/-- bits.Len64: "Len64 returns the minimum number of bits required to represent x; the result is 0 for x == 0.": IT RETURNS 'Lib.bitLen x'; the world is as it was. ('h0', 'h1': x is a uint64.) (LAID: no walk: one application.) -/
theorem Tryz.bits_Len64 (x : Int) (w : World) (h0 : 0 ≤ x) (h1 : x ≤ 18446744073709551615) :
    Calls Tryz.prog 105 #[.int .u64 x] w fun e w' => e = .returned (.int .i64 (Lib.bitLen x.toNat)) ∧ w' = w := Any.bits_Len64 Tryz.lays129 x w h0 h1
def Tryz.lays317_ren : Go.Shelf.Ren := ⟨fun | 317 => 108 | n => n, fun | 3 => 3 | 46 => 95 | n => n, fun | n => n⟩
theorem Tryz.lays317 : Go.Proofs.Lays.n317 Tryz.prog Tryz.lays317_ren := {
  mixed := by kernel_rfl
  f317 := Tryz.func108.trans (congrArg some (by kernel_rfl))
  t3 := Tryz.underlying3
  a3 := Tryz.isAgg3
  z3 := Tryz.sizeOf3
  v3 := Tryz.zeroValue3
  t46 := Tryz.underlying95
  a46 := Tryz.isAgg95
  z46 := Tryz.sizeOf95
  v46 := Tryz.zeroValue95 }
open Go.Lib in
/-- internal/strconv.log10Pow2: "log10Pow2(x) returns ⌊log₁₀ 2**x⌋ = ⌊x * log₁₀ 2⌋.": '(x * 78913) >> 18', at an x up to 64 (a length in bits). The world is as it was. (LAID: no walk: one application.) -/
theorem Tryz.internal_strconv_log10Pow2 (x : Nat) (h : x ≤ 64) (w : World) :
    Calls Tryz.prog 108 #[.int .i64 x] w fun e w' => e = .returned (.int .i64 (Lib.l10 x)) ∧ w' = w := Any.internal_strconv_log10Pow2 Tryz.lays317 x h w
def Tryz.lays318_ren : Go.Shelf.Ren := ⟨fun | 318 => 109 | n => n, fun | 3 => 3 | 4 => 4 | n => n, fun | n => n⟩
theorem Tryz.lays318 : Go.Proofs.Lays.n318 Tryz.prog Tryz.lays318_ren := {
  mixed := by kernel_rfl
  f318 := Tryz.func109.trans (congrArg some (by kernel_rfl))
  t3 := Tryz.underlying3
  a3 := Tryz.isAgg3
  z3 := Tryz.sizeOf3
  v3 := Tryz.zeroValue3
  t4 := Tryz.underlying4
  a4 := Tryz.isAgg4
  z4 := Tryz.sizeOf4
  v4 := Tryz.zeroValue4 }
open Go.Lib in
/-- internal/strconv.bool2: "bool2 converts b to an integer: 1 for true, 0 for false." The world is as it was. (LAID: no walk: one application.) -/
theorem Tryz.internal_strconv_bool2_int (b : Bool) (w : World) :
    Calls Tryz.prog 109 #[.bool b] w fun e w' => e = .returned (.int .i64 (if b then 1 else 0)) ∧ w' = w := Any.internal_strconv_bool2_int Tryz.lays318 b w
def Tryz.lays283_ren : Go.Shelf.Ren := ⟨fun | 283 => 85 | n => n, fun | 3 => 3 | 9 => 9 | 4 => 4 | n => n, fun | n => n⟩
theorem Tryz.lays283 : Go.Proofs.Lays.n283 Tryz.prog Tryz.lays283_ren := {
  mixed := by kernel_rfl
  f283 := Tryz.func85.trans (congrArg some (by kernel_rfl))
  t3 := Tryz.underlying3
  a3 := Tryz.isAgg3
  z3 := Tryz.sizeOf3
  v3 := Tryz.zeroValue3
  t4 := Tryz.underlying4
  a4 := Tryz.isAgg4
  z4 := Tryz.sizeOf4
  v4 := Tryz.zeroValue4
  t9 := Tryz.underlying9
  a9 := Tryz.isAgg9
  z9 := Tryz.sizeOf9
  v9 := Tryz.zeroValue9 }
open Go.Lib in
/-- internal/strconv.small: "small returns the string for an i with 0 <= i < nSmalls.": i's decimal numeral. The world is as it was. (LAID: no walk: one application.) -/
theorem Tryz.internal_strconv_small (i : Nat) (h : i < 100) (w : World) :
    Calls Tryz.prog 85 #[.int .i64 i] w fun e w' => e = .returned (.string ⟨(Lib.decDigits i).toArray⟩) ∧ w' = w := Any.internal_strconv_small Tryz.lays283 i h w
def Tryz.laysM284_ren : Go.Shelf.Ren := ⟨fun | 284 => 86 | 129 => 105 | 317 => 108 | 318 => 109 | n => n, fun | 53 => 87 | 3 => 3 | 212 => 161 | 0 => 0 | 4 => 4 | 46 => 95 | 5 => 5 | 9 => 9 | n => n, fun | 17 => 2 | n => n⟩
theorem Tryz.laysM284 : Go.Proofs.LaysM.n284 Tryz.prog Tryz.laysM284_ren := {
  mixed := by kernel_rfl
  f129 := Tryz.func105.trans (congrArg some (by kernel_rfl))
  f284 := Tryz.func86.trans (congrArg some (by kernel_rfl))
  f317 := Tryz.func108.trans (congrArg some (by kernel_rfl))
  f318 := Tryz.func109.trans (congrArg some (by kernel_rfl))
  t0 := Tryz.underlying0
  a0 := Tryz.isAgg0
  z0 := Tryz.sizeOf0
  v0 := Tryz.zeroValue0
  t3 := Tryz.underlying3
  a3 := Tryz.isAgg3
  z3 := Tryz.sizeOf3
  v3 := Tryz.zeroValue3
  t4 := Tryz.underlying4
  a4 := Tryz.isAgg4
  z4 := Tryz.sizeOf4
  v4 := Tryz.zeroValue4
  t5 := Tryz.underlying5
  a5 := Tryz.isAgg5
  z5 := Tryz.sizeOf5
  v5 := Tryz.zeroValue5
  t9 := Tryz.underlying9
  a9 := Tryz.isAgg9
  z9 := Tryz.sizeOf9
  v9 := Tryz.zeroValue9
  t46 := Tryz.underlying95
  a46 := Tryz.isAgg95
  z46 := Tryz.sizeOf95
  v46 := Tryz.zeroValue95
  t53 := Tryz.underlying87
  a53 := Tryz.isAgg87
  z53 := Tryz.sizeOf87
  v53 := Tryz.zeroValue87
  t212 := Tryz.underlying161
  a212 := Tryz.isAgg161
  z212 := Tryz.sizeOf161
  v212 := Tryz.zeroValue161
  g17 := by kernel_rfl
  i0 := by kernel_rfl
  i3 := by kernel_rfl
  i4 := by kernel_rfl
  i5 := by kernel_rfl
  i9 := by kernel_rfl
  i46 := by kernel_rfl
  i53 := by kernel_rfl
  i212 := by kernel_rfl
  m17 := by kernel_rfl }
open Go.Lib in
/-- internal/strconv.numDigits, at a d that is not 0: THE NUMBER OF d's DECIMAL DIGITS. The world is as it was. (LAID: no walk: one application.) -/
theorem Tryz.internal_strconv_numDigits (u : Nat) (h1 : 1 ≤ u) (h2 : u < 18446744073709551616) (w : World) (htab : Lib.TabIs Tryz.prog w "internal/strconv.uint64pow10" .u64 Lib.pow10Tab) :
    Calls Tryz.prog 86 #[.int .u64 u] w fun e w' => e = .returned (.int .i64 (Lib.nDigits u)) ∧ w' = w := Any.internal_strconv_numDigits Tryz.laysM284 u h1 h2 w htab
def Tryz.lays285_ren : Go.Shelf.Ren := ⟨fun | 285 => 87 | n => n, fun | 37 => 32 | 53 => 87 | 3 => 3 | 4 => 4 | 51 => 93 | 9 => 9 | 5 => 5 | 0 => 0 | n => n, fun | n => n⟩
theorem Tryz.lays285 : Go.Proofs.Lays.n285 Tryz.prog Tryz.lays285_ren := {
  mixed := by kernel_rfl
  f285 := Tryz.func87.trans (congrArg some (by kernel_rfl))
  t0 := Tryz.underlying0
  a0 := Tryz.isAgg0
  z0 := Tryz.sizeOf0
  v0 := Tryz.zeroValue0
  t3 := Tryz.underlying3
  a3 := Tryz.isAgg3
  z3 := Tryz.sizeOf3
  v3 := Tryz.zeroValue3
  t4 := Tryz.underlying4
  a4 := Tryz.isAgg4
  z4 := Tryz.sizeOf4
  v4 := Tryz.zeroValue4
  t5 := Tryz.underlying5
  a5 := Tryz.isAgg5
  z5 := Tryz.sizeOf5
  v5 := Tryz.zeroValue5
  t9 := Tryz.underlying9
  a9 := Tryz.isAgg9
  z9 := Tryz.sizeOf9
  v9 := Tryz.zeroValue9
  t37 := Tryz.underlying32
  a37 := Tryz.isAgg32
  z37 := Tryz.sizeOf32
  v37 := Tryz.zeroValue32
  t51 := Tryz.underlying93
  a51 := Tryz.isAgg93
  z51 := Tryz.sizeOf93
  v51 := Tryz.zeroValue93
  t53 := Tryz.underlying87
  a53 := Tryz.isAgg87
  z53 := Tryz.sizeOf87
  v53 := Tryz.zeroValue87 }
open Go.RowKit Go.Sort Go.Lib in
/-- internal/strconv.formatBase10: "formatBase10 formats the decimal representation of u into a. The caller is responsible for ensuring that a is big enough to hold u. If a is too big, leading zeros will be filled in as needed.": THE ROW HOLDS u's DIGITS ('FmtInv .. 0 ..': every place t holds 'dg u (len - 1 - t)'); all else is as it was but for the count of draws. (LAID: no walk: one application.) -/
theorem Tryz.internal_strconv_formatBase10 (blk off cap : Nat) (u : Nat) (d : Array UInt8) (w : World) (hH : Holds (fun (b : UInt8) => Value.int .u8 (b.toNat : Int)) w blk off d) (hu : u < 10 ^ d.size) (hu64 : u < 18446744073709551616) (hsz : d.size < 4611686018427387904) :
    Calls Tryz.prog 87 #[.slice (some ⟨blk, off, none⟩) d.size cap, .int .u64 u] w fun e w' =>
      e = .returned (.tuple #[]) ∧ ∃ (n v' : Nat) (dk : Array UInt8), w' = (putRow (fun (b : UInt8) => Value.int .u8 (b.toNat : Int)) w blk off dk).drewN n ∧ FmtInv d.size u 0 v' dk := Any.internal_strconv_formatBase10 Tryz.lays285 blk off cap u d w hH hu hu64 hsz
def Tryz.laysM246_ren : Go.Shelf.Ren := ⟨fun | 246 => 73 | 283 => 85 | 284 => 86 | 285 => 87 | 286 => 88 | 129 => 105 | 317 => 108 | 318 => 109 | 319 => 110 | 320 => 111 | 337 => 118 | 338 => 119 | n => n, fun | 2 => 2 | 3 => 3 | 9 => 9 | 4 => 4 | 171 => 137 | 0 => 0 | 53 => 87 | 37 => 32 | 5 => 5 | 173 => 140 | 212 => 161 | 51 => 93 | 20 => 20 | 213 => 162 | 46 => 95 | 232 => 173 | 233 => 174 | n => n, fun | 17 => 2 | 18 => 3 | 19 => 4 | n => n⟩
theorem Tryz.laysM246 : Go.Proofs.LaysM.n246 Tryz.prog Tryz.laysM246_ren := {
  mixed := by kernel_rfl
  f129 := Tryz.func105.trans (congrArg some (by kernel_rfl))
  f246 := Tryz.func73.trans (congrArg some (by kernel_rfl))
  f283 := Tryz.func85.trans (congrArg some (by kernel_rfl))
  f284 := Tryz.func86.trans (congrArg some (by kernel_rfl))
  f285 := Tryz.func87.trans (congrArg some (by kernel_rfl))
  f286 := Tryz.func88.trans (congrArg some (by kernel_rfl))
  f317 := Tryz.func108.trans (congrArg some (by kernel_rfl))
  f318 := Tryz.func109.trans (congrArg some (by kernel_rfl))
  f319 := Tryz.func110.trans (congrArg some (by kernel_rfl))
  f320 := Tryz.func111.trans (congrArg some (by kernel_rfl))
  f337 := Tryz.func118.trans (congrArg some (by kernel_rfl))
  f338 := Tryz.func119.trans (congrArg some (by kernel_rfl))
  t0 := Tryz.underlying0
  a0 := Tryz.isAgg0
  z0 := Tryz.sizeOf0
  v0 := Tryz.zeroValue0
  t2 := Tryz.underlying2
  a2 := Tryz.isAgg2
  z2 := Tryz.sizeOf2
  v2 := Tryz.zeroValue2
  t3 := Tryz.underlying3
  a3 := Tryz.isAgg3
  z3 := Tryz.sizeOf3
  v3 := Tryz.zeroValue3
  t4 := Tryz.underlying4
  a4 := Tryz.isAgg4
  z4 := Tryz.sizeOf4
  v4 := Tryz.zeroValue4
  t5 := Tryz.underlying5
  a5 := Tryz.isAgg5
  z5 := Tryz.sizeOf5
  v5 := Tryz.zeroValue5
  t9 := Tryz.underlying9
  a9 := Tryz.isAgg9
  z9 := Tryz.sizeOf9
  v9 := Tryz.zeroValue9
  t20 := Tryz.underlying20
  a20 := Tryz.isAgg20
  z20 := Tryz.sizeOf20
  v20 := Tryz.zeroValue20
  t37 := Tryz.underlying32
  a37 := Tryz.isAgg32
  z37 := Tryz.sizeOf32
  v37 := Tryz.zeroValue32
  t46 := Tryz.underlying95
  a46 := Tryz.isAgg95
  z46 := Tryz.sizeOf95
  v46 := Tryz.zeroValue95
  t51 := Tryz.underlying93
  a51 := Tryz.isAgg93
  z51 := Tryz.sizeOf93
  v51 := Tryz.zeroValue93
  t53 := Tryz.underlying87
  a53 := Tryz.isAgg87
  z53 := Tryz.sizeOf87
  v53 := Tryz.zeroValue87
  t171 := Tryz.underlying137
  a171 := Tryz.isAgg137
  z171 := Tryz.sizeOf137
  v171 := Tryz.zeroValue137
  t173 := Tryz.underlying140
  a173 := Tryz.isAgg140
  z173 := Tryz.sizeOf140
  v173 := Tryz.zeroValue140
  t212 := Tryz.underlying161
  a212 := Tryz.isAgg161
  z212 := Tryz.sizeOf161
  v212 := Tryz.zeroValue161
  t213 := Tryz.underlying162
  a213 := Tryz.isAgg162
  z213 := Tryz.sizeOf162
  t232 := Tryz.underlying173
  a232 := Tryz.isAgg173
  z232 := Tryz.sizeOf173
  v232 := Tryz.zeroValue173
  t233 := Tryz.underlying174
  a233 := Tryz.isAgg174
  z233 := Tryz.sizeOf174
  v233 := Tryz.zeroValue174
  g17 := by kernel_rfl
  g18 := by kernel_rfl
  g19 := by kernel_rfl
  i0 := by kernel_rfl
  i2 := by kernel_rfl
  i3 := by kernel_rfl
  i4 := by kernel_rfl
  i5 := by kernel_rfl
  i9 := by kernel_rfl
  i20 := by kernel_rfl
  i37 := by kernel_rfl
  i46 := by kernel_rfl
  i51 := by kernel_rfl
  i53 := by kernel_rfl
  i171 := by kernel_rfl
  i173 := by kernel_rfl
  i212 := by kernel_rfl
  i232 := by kernel_rfl
  i233 := by kernel_rfl
  m17 := by kernel_rfl
  m18 := by kernel_rfl
  m19 := by kernel_rfl }
open Go.RowKit Go.Sort Go.Lib in
/-- internal/strconv.FormatInt: "FormatInt returns the string representation of i in the given base": AT BASE 10: i's decimal numeral, for every int64. The world behind the call: the world before it, new blocks behind the heap, draws. (LAID: no walk: one application.) -/
theorem Tryz.internal_strconv_FormatInt_10 (n : Int) (h0 : -9223372036854775808 ≤ n) (h1 : n ≤ 9223372036854775807) (w : World) (htab : Lib.TabIs Tryz.prog w "internal/strconv.uint64pow10" .u64 Lib.pow10Tab) :
    Calls Tryz.prog 73 #[.int .i64 n, .int .i64 10] w fun e w' => e = .returned (.string ⟨(Lib.itoa n).toArray⟩) ∧ ∃ k os, w' = grow (w.drewN k) os := Any.internal_strconv_FormatInt_10 Tryz.laysM246 n h0 h1 w htab
def Tryz.lays246_ren : Go.Shelf.Ren := ⟨fun | 246 => 73 | 283 => 85 | 284 => 86 | 285 => 87 | 286 => 88 | 129 => 105 | 317 => 108 | 318 => 109 | 319 => 110 | 320 => 111 | 337 => 118 | 338 => 119 | n => n, fun | 2 => 2 | 3 => 3 | 9 => 9 | 4 => 4 | 171 => 137 | 0 => 0 | 53 => 87 | 37 => 32 | 5 => 5 | 173 => 140 | 212 => 161 | 51 => 93 | 20 => 20 | 213 => 162 | 46 => 95 | 232 => 173 | 233 => 174 | n => n, fun | 17 => 2 | 18 => 3 | 19 => 4 | n => n⟩
theorem Tryz.lays246 : Go.Proofs.Lays.n246 Tryz.prog Tryz.lays246_ren := {
  mixed := by kernel_rfl
  f129 := Tryz.func105.trans (congrArg some (by kernel_rfl))
  f246 := Tryz.func73.trans (congrArg some (by kernel_rfl))
  f283 := Tryz.func85.trans (congrArg some (by kernel_rfl))
  f284 := Tryz.func86.trans (congrArg some (by kernel_rfl))
  f285 := Tryz.func87.trans (congrArg some (by kernel_rfl))
  f286 := Tryz.func88.trans (congrArg some (by kernel_rfl))
  f317 := Tryz.func108.trans (congrArg some (by kernel_rfl))
  f318 := Tryz.func109.trans (congrArg some (by kernel_rfl))
  f319 := Tryz.func110.trans (congrArg some (by kernel_rfl))
  f320 := Tryz.func111.trans (congrArg some (by kernel_rfl))
  f337 := Tryz.func118.trans (congrArg some (by kernel_rfl))
  f338 := Tryz.func119.trans (congrArg some (by kernel_rfl))
  t0 := Tryz.underlying0
  a0 := Tryz.isAgg0
  z0 := Tryz.sizeOf0
  v0 := Tryz.zeroValue0
  t2 := Tryz.underlying2
  a2 := Tryz.isAgg2
  z2 := Tryz.sizeOf2
  v2 := Tryz.zeroValue2
  t3 := Tryz.underlying3
  a3 := Tryz.isAgg3
  z3 := Tryz.sizeOf3
  v3 := Tryz.zeroValue3
  t4 := Tryz.underlying4
  a4 := Tryz.isAgg4
  z4 := Tryz.sizeOf4
  v4 := Tryz.zeroValue4
  t5 := Tryz.underlying5
  a5 := Tryz.isAgg5
  z5 := Tryz.sizeOf5
  v5 := Tryz.zeroValue5
  t9 := Tryz.underlying9
  a9 := Tryz.isAgg9
  z9 := Tryz.sizeOf9
  v9 := Tryz.zeroValue9
  t20 := Tryz.underlying20
  a20 := Tryz.isAgg20
  z20 := Tryz.sizeOf20
  v20 := Tryz.zeroValue20
  t37 := Tryz.underlying32
  a37 := Tryz.isAgg32
  z37 := Tryz.sizeOf32
  v37 := Tryz.zeroValue32
  t46 := Tryz.underlying95
  a46 := Tryz.isAgg95
  z46 := Tryz.sizeOf95
  v46 := Tryz.zeroValue95
  t51 := Tryz.underlying93
  a51 := Tryz.isAgg93
  z51 := Tryz.sizeOf93
  v51 := Tryz.zeroValue93
  t53 := Tryz.underlying87
  a53 := Tryz.isAgg87
  z53 := Tryz.sizeOf87
  v53 := Tryz.zeroValue87
  t171 := Tryz.underlying137
  a171 := Tryz.isAgg137
  z171 := Tryz.sizeOf137
  v171 := Tryz.zeroValue137
  t173 := Tryz.underlying140
  a173 := Tryz.isAgg140
  z173 := Tryz.sizeOf140
  v173 := Tryz.zeroValue140
  t212 := Tryz.underlying161
  a212 := Tryz.isAgg161
  z212 := Tryz.sizeOf161
  v212 := Tryz.zeroValue161
  t213 := Tryz.underlying162
  a213 := Tryz.isAgg162
  z213 := Tryz.sizeOf162
  t232 := Tryz.underlying173
  a232 := Tryz.isAgg173
  z232 := Tryz.sizeOf173
  v232 := Tryz.zeroValue173
  t233 := Tryz.underlying174
  a233 := Tryz.isAgg174
  z233 := Tryz.sizeOf174
  v233 := Tryz.zeroValue174
  g17 := by kernel_rfl
  g18 := by kernel_rfl
  g19 := by kernel_rfl }
open Go.RowKit Go.Sort Go.Lib in
/-- THE ROAD WITHOUT THE TABLE: 0 <= i < 100: two constants are read, nothing is laid: no premise on the world, and the world is as it was. (LAID: no walk: one application.) -/
theorem Tryz.internal_strconv_FormatInt_10_small (i : Nat) (hi : i < 100) (w : World) :
    Calls Tryz.prog 73 #[.int .i64 i, .int .i64 10] w fun e w' => e = .returned (.string ⟨(Lib.decDigits i).toArray⟩) ∧ w' = w := Any.internal_strconv_FormatInt_10_small Tryz.lays246 i hi w
def Tryz.laysM243_ren : Go.Shelf.Ren := ⟨fun | 243 => 58 | 246 => 73 | 283 => 85 | 284 => 86 | 285 => 87 | 286 => 88 | 129 => 105 | 317 => 108 | 318 => 109 | 319 => 110 | 320 => 111 | 337 => 118 | 338 => 119 | n => n, fun | 3 => 3 | 9 => 9 | 2 => 2 | 4 => 4 | 171 => 137 | 0 => 0 | 53 => 87 | 37 => 32 | 5 => 5 | 173 => 140 | 212 => 161 | 51 => 93 | 20 => 20 | 213 => 162 | 46 => 95 | 232 => 173 | 233 => 174 | n => n, fun | 17 => 2 | 18 => 3 | 19 => 4 | n => n⟩
theorem Tryz.laysM243 : Go.Proofs.LaysM.n243 Tryz.prog Tryz.laysM243_ren := {
  mixed := by kernel_rfl
  f129 := Tryz.func105.trans (congrArg some (by kernel_rfl))
  f243 := Tryz.func58.trans (congrArg some (by kernel_rfl))
  f246 := Tryz.func73.trans (congrArg some (by kernel_rfl))
  f283 := Tryz.func85.trans (congrArg some (by kernel_rfl))
  f284 := Tryz.func86.trans (congrArg some (by kernel_rfl))
  f285 := Tryz.func87.trans (congrArg some (by kernel_rfl))
  f286 := Tryz.func88.trans (congrArg some (by kernel_rfl))
  f317 := Tryz.func108.trans (congrArg some (by kernel_rfl))
  f318 := Tryz.func109.trans (congrArg some (by kernel_rfl))
  f319 := Tryz.func110.trans (congrArg some (by kernel_rfl))
  f320 := Tryz.func111.trans (congrArg some (by kernel_rfl))
  f337 := Tryz.func118.trans (congrArg some (by kernel_rfl))
  f338 := Tryz.func119.trans (congrArg some (by kernel_rfl))
  t0 := Tryz.underlying0
  a0 := Tryz.isAgg0
  z0 := Tryz.sizeOf0
  v0 := Tryz.zeroValue0
  t2 := Tryz.underlying2
  a2 := Tryz.isAgg2
  z2 := Tryz.sizeOf2
  v2 := Tryz.zeroValue2
  t3 := Tryz.underlying3
  a3 := Tryz.isAgg3
  z3 := Tryz.sizeOf3
  v3 := Tryz.zeroValue3
  t4 := Tryz.underlying4
  a4 := Tryz.isAgg4
  z4 := Tryz.sizeOf4
  v4 := Tryz.zeroValue4
  t5 := Tryz.underlying5
  a5 := Tryz.isAgg5
  z5 := Tryz.sizeOf5
  v5 := Tryz.zeroValue5
  t9 := Tryz.underlying9
  a9 := Tryz.isAgg9
  z9 := Tryz.sizeOf9
  v9 := Tryz.zeroValue9
  t20 := Tryz.underlying20
  a20 := Tryz.isAgg20
  z20 := Tryz.sizeOf20
  v20 := Tryz.zeroValue20
  t37 := Tryz.underlying32
  a37 := Tryz.isAgg32
  z37 := Tryz.sizeOf32
  v37 := Tryz.zeroValue32
  t46 := Tryz.underlying95
  a46 := Tryz.isAgg95
  z46 := Tryz.sizeOf95
  v46 := Tryz.zeroValue95
  t51 := Tryz.underlying93
  a51 := Tryz.isAgg93
  z51 := Tryz.sizeOf93
  v51 := Tryz.zeroValue93
  t53 := Tryz.underlying87
  a53 := Tryz.isAgg87
  z53 := Tryz.sizeOf87
  v53 := Tryz.zeroValue87
  t171 := Tryz.underlying137
  a171 := Tryz.isAgg137
  z171 := Tryz.sizeOf137
  v171 := Tryz.zeroValue137
  t173 := Tryz.underlying140
  a173 := Tryz.isAgg140
  z173 := Tryz.sizeOf140
  v173 := Tryz.zeroValue140
  t212 := Tryz.underlying161
  a212 := Tryz.isAgg161
  z212 := Tryz.sizeOf161
  v212 := Tryz.zeroValue161
  t213 := Tryz.underlying162
  a213 := Tryz.isAgg162
  z213 := Tryz.sizeOf162
  t232 := Tryz.underlying173
  a232 := Tryz.isAgg173
  z232 := Tryz.sizeOf173
  v232 := Tryz.zeroValue173
  t233 := Tryz.underlying174
  a233 := Tryz.isAgg174
  z233 := Tryz.sizeOf174
  v233 := Tryz.zeroValue174
  g17 := by kernel_rfl
  g18 := by kernel_rfl
  g19 := by kernel_rfl
  i0 := by kernel_rfl
  i2 := by kernel_rfl
  i3 := by kernel_rfl
  i4 := by kernel_rfl
  i5 := by kernel_rfl
  i9 := by kernel_rfl
  i20 := by kernel_rfl
  i37 := by kernel_rfl
  i46 := by kernel_rfl
  i51 := by kernel_rfl
  i53 := by kernel_rfl
  i171 := by kernel_rfl
  i173 := by kernel_rfl
  i212 := by kernel_rfl
  i232 := by kernel_rfl
  i233 := by kernel_rfl
  m17 := by kernel_rfl
  m18 := by kernel_rfl
  m19 := by kernel_rfl }
open Go.RowKit Go.Sort Go.Lib in
/-- internal/strconv.Itoa: "Itoa is equivalent to FormatInt(int64(i), 10).": i's decimal numeral, for every int. (LAID: no walk: one application.) -/
theorem Tryz.internal_strconv_Itoa (n : Int) (h0 : -9223372036854775808 ≤ n) (h1 : n ≤ 9223372036854775807) (w : World) (htab : Lib.TabIs Tryz.prog w "internal/strconv.uint64pow10" .u64 Lib.pow10Tab) :
    Calls Tryz.prog 58 #[.int .i64 n] w fun e w' => e = .returned (.string ⟨(Lib.itoa n).toArray⟩) ∧ ∃ k os, w' = grow (w.drewN k) os := Any.internal_strconv_Itoa Tryz.laysM243 n h0 h1 w htab
def Tryz.lays243_ren : Go.Shelf.Ren := ⟨fun | 243 => 58 | 246 => 73 | 283 => 85 | 284 => 86 | 285 => 87 | 286 => 88 | 129 => 105 | 317 => 108 | 318 => 109 | 319 => 110 | 320 => 111 | 337 => 118 | 338 => 119 | n => n, fun | 3 => 3 | 9 => 9 | 2 => 2 | 4 => 4 | 171 => 137 | 0 => 0 | 53 => 87 | 37 => 32 | 5 => 5 | 173 => 140 | 212 => 161 | 51 => 93 | 20 => 20 | 213 => 162 | 46 => 95 | 232 => 173 | 233 => 174 | n => n, fun | 17 => 2 | 18 => 3 | 19 => 4 | n => n⟩
theorem Tryz.lays243 : Go.Proofs.Lays.n243 Tryz.prog Tryz.lays243_ren := {
  mixed := by kernel_rfl
  f129 := Tryz.func105.trans (congrArg some (by kernel_rfl))
  f243 := Tryz.func58.trans (congrArg some (by kernel_rfl))
  f246 := Tryz.func73.trans (congrArg some (by kernel_rfl))
  f283 := Tryz.func85.trans (congrArg some (by kernel_rfl))
  f284 := Tryz.func86.trans (congrArg some (by kernel_rfl))
  f285 := Tryz.func87.trans (congrArg some (by kernel_rfl))
  f286 := Tryz.func88.trans (congrArg some (by kernel_rfl))
  f317 := Tryz.func108.trans (congrArg some (by kernel_rfl))
  f318 := Tryz.func109.trans (congrArg some (by kernel_rfl))
  f319 := Tryz.func110.trans (congrArg some (by kernel_rfl))
  f320 := Tryz.func111.trans (congrArg some (by kernel_rfl))
  f337 := Tryz.func118.trans (congrArg some (by kernel_rfl))
  f338 := Tryz.func119.trans (congrArg some (by kernel_rfl))
  t0 := Tryz.underlying0
  a0 := Tryz.isAgg0
  z0 := Tryz.sizeOf0
  v0 := Tryz.zeroValue0
  t2 := Tryz.underlying2
  a2 := Tryz.isAgg2
  z2 := Tryz.sizeOf2
  v2 := Tryz.zeroValue2
  t3 := Tryz.underlying3
  a3 := Tryz.isAgg3
  z3 := Tryz.sizeOf3
  v3 := Tryz.zeroValue3
  t4 := Tryz.underlying4
  a4 := Tryz.isAgg4
  z4 := Tryz.sizeOf4
  v4 := Tryz.zeroValue4
  t5 := Tryz.underlying5
  a5 := Tryz.isAgg5
  z5 := Tryz.sizeOf5
  v5 := Tryz.zeroValue5
  t9 := Tryz.underlying9
  a9 := Tryz.isAgg9
  z9 := Tryz.sizeOf9
  v9 := Tryz.zeroValue9
  t20 := Tryz.underlying20
  a20 := Tryz.isAgg20
  z20 := Tryz.sizeOf20
  v20 := Tryz.zeroValue20
  t37 := Tryz.underlying32
  a37 := Tryz.isAgg32
  z37 := Tryz.sizeOf32
  v37 := Tryz.zeroValue32
  t46 := Tryz.underlying95
  a46 := Tryz.isAgg95
  z46 := Tryz.sizeOf95
  v46 := Tryz.zeroValue95
  t51 := Tryz.underlying93
  a51 := Tryz.isAgg93
  z51 := Tryz.sizeOf93
  v51 := Tryz.zeroValue93
  t53 := Tryz.underlying87
  a53 := Tryz.isAgg87
  z53 := Tryz.sizeOf87
  v53 := Tryz.zeroValue87
  t171 := Tryz.underlying137
  a171 := Tryz.isAgg137
  z171 := Tryz.sizeOf137
  v171 := Tryz.zeroValue137
  t173 := Tryz.underlying140
  a173 := Tryz.isAgg140
  z173 := Tryz.sizeOf140
  v173 := Tryz.zeroValue140
  t212 := Tryz.underlying161
  a212 := Tryz.isAgg161
  z212 := Tryz.sizeOf161
  v212 := Tryz.zeroValue161
  t213 := Tryz.underlying162
  a213 := Tryz.isAgg162
  z213 := Tryz.sizeOf162
  t232 := Tryz.underlying173
  a232 := Tryz.isAgg173
  z232 := Tryz.sizeOf173
  v232 := Tryz.zeroValue173
  t233 := Tryz.underlying174
  a233 := Tryz.isAgg174
  z233 := Tryz.sizeOf174
  v233 := Tryz.zeroValue174
  g17 := by kernel_rfl
  g18 := by kernel_rfl
  g19 := by kernel_rfl }
open Go.RowKit Go.Sort Go.Lib in
/-- THE ROAD WITHOUT THE TABLE: 0 <= i < 100. (LAID: no walk: one application.) -/
theorem Tryz.internal_strconv_Itoa_small (i : Nat) (hi : i < 100) (w : World) :
    Calls Tryz.prog 58 #[.int .i64 i] w fun e w' => e = .returned (.string ⟨(Lib.decDigits i).toArray⟩) ∧ w' = w := Any.internal_strconv_Itoa_small Tryz.lays243 i hi w
def Tryz.laysM171_ren : Go.Shelf.Ren := ⟨fun | 171 => 43 | 243 => 58 | 246 => 73 | 283 => 85 | 284 => 86 | 285 => 87 | 286 => 88 | 129 => 105 | 317 => 108 | 318 => 109 | 319 => 110 | 320 => 111 | 337 => 118 | 338 => 119 | n => n, fun | 3 => 3 | 9 => 9 | 2 => 2 | 4 => 4 | 171 => 137 | 0 => 0 | 53 => 87 | 37 => 32 | 5 => 5 | 173 => 140 | 212 => 161 | 51 => 93 | 20 => 20 | 213 => 162 | 46 => 95 | 232 => 173 | 233 => 174 | n => n, fun | 17 => 2 | 18 => 3 | 19 => 4 | n => n⟩
theorem Tryz.laysM171 : Go.Proofs.LaysM.n171 Tryz.prog Tryz.laysM171_ren := {
  mixed := by kernel_rfl
  f129 := Tryz.func105.trans (congrArg some (by kernel_rfl))
  f171 := Tryz.func43.trans (congrArg some (by kernel_rfl))
  f243 := Tryz.func58.trans (congrArg some (by kernel_rfl))
  f246 := Tryz.func73.trans (congrArg some (by kernel_rfl))
  f283 := Tryz.func85.trans (congrArg some (by kernel_rfl))
  f284 := Tryz.func86.trans (congrArg some (by kernel_rfl))
  f285 := Tryz.func87.trans (congrArg some (by kernel_rfl))
  f286 := Tryz.func88.trans (congrArg some (by kernel_rfl))
  f317 := Tryz.func108.trans (congrArg some (by kernel_rfl))
  f318 := Tryz.func109.trans (congrArg some (by kernel_rfl))
  f319 := Tryz.func110.trans (congrArg some (by kernel_rfl))
  f320 := Tryz.func111.trans (congrArg some (by kernel_rfl))
  f337 := Tryz.func118.trans (congrArg some (by kernel_rfl))
  f338 := Tryz.func119.trans (congrArg some (by kernel_rfl))
  t0 := Tryz.underlying0
  a0 := Tryz.isAgg0
  z0 := Tryz.sizeOf0
  v0 := Tryz.zeroValue0
  t2 := Tryz.underlying2
  a2 := Tryz.isAgg2
  z2 := Tryz.sizeOf2
  v2 := Tryz.zeroValue2
  t3 := Tryz.underlying3
  a3 := Tryz.isAgg3
  z3 := Tryz.sizeOf3
  v3 := Tryz.zeroValue3
  t4 := Tryz.underlying4
  a4 := Tryz.isAgg4
  z4 := Tryz.sizeOf4
  v4 := Tryz.zeroValue4
  t5 := Tryz.underlying5
  a5 := Tryz.isAgg5
  z5 := Tryz.sizeOf5
  v5 := Tryz.zeroValue5
  t9 := Tryz.underlying9
  a9 := Tryz.isAgg9
  z9 := Tryz.sizeOf9
  v9 := Tryz.zeroValue9
  t20 := Tryz.underlying20
  a20 := Tryz.isAgg20
  z20 := Tryz.sizeOf20
  v20 := Tryz.zeroValue20
  t37 := Tryz.underlying32
  a37 := Tryz.isAgg32
  z37 := Tryz.sizeOf32
  v37 := Tryz.zeroValue32
  t46 := Tryz.underlying95
  a46 := Tryz.isAgg95
  z46 := Tryz.sizeOf95
  v46 := Tryz.zeroValue95
  t51 := Tryz.underlying93
  a51 := Tryz.isAgg93
  z51 := Tryz.sizeOf93
  v51 := Tryz.zeroValue93
  t53 := Tryz.underlying87
  a53 := Tryz.isAgg87
  z53 := Tryz.sizeOf87
  v53 := Tryz.zeroValue87
  t171 := Tryz.underlying137
  a171 := Tryz.isAgg137
  z171 := Tryz.sizeOf137
  v171 := Tryz.zeroValue137
  t173 := Tryz.underlying140
  a173 := Tryz.isAgg140
  z173 := Tryz.sizeOf140
  v173 := Tryz.zeroValue140
  t212 := Tryz.underlying161
  a212 := Tryz.isAgg161
  z212 := Tryz.sizeOf161
  v212 := Tryz.zeroValue161
  t213 := Tryz.underlying162
  a213 := Tryz.isAgg162
  z213 := Tryz.sizeOf162
  t232 := Tryz.underlying173
  a232 := Tryz.isAgg173
  z232 := Tryz.sizeOf173
  v232 := Tryz.zeroValue173
  t233 := Tryz.underlying174
  a233 := Tryz.isAgg174
  z233 := Tryz.sizeOf174
  v233 := Tryz.zeroValue174
  g17 := by kernel_rfl
  g18 := by kernel_rfl
  g19 := by kernel_rfl
  i0 := by kernel_rfl
  i2 := by kernel_rfl
  i3 := by kernel_rfl
  i4 := by kernel_rfl
  i5 := by kernel_rfl
  i9 := by kernel_rfl
  i20 := by kernel_rfl
  i37 := by kernel_rfl
  i46 := by kernel_rfl
  i51 := by kernel_rfl
  i53 := by kernel_rfl
  i171 := by kernel_rfl
  i173 := by kernel_rfl
  i212 := by kernel_rfl
  i232 := by kernel_rfl
  i233 := by kernel_rfl
  m17 := by kernel_rfl
  m18 := by kernel_rfl
  m19 := by kernel_rfl }
open Go.RowKit Go.Sort Go.Lib in
/-- strconv.Itoa: "Itoa is equivalent to FormatInt(int64(i), 10).": i's DECIMAL NUMERAL ('Lib.itoa': a '-' where i is negative, then the digits), FOR EVERY int. The world behind the call: the world before it, new blocks behind the heap (the library's 'var a [24]byte'), draws. (LAID: no walk: one application.) -/
theorem Tryz.strconv_Itoa (n : Int) (h0 : -9223372036854775808 ≤ n) (h1 : n ≤ 9223372036854775807) (w : World) (htab : Lib.TabIs Tryz.prog w "internal/strconv.uint64pow10" .u64 Lib.pow10Tab) :
    Calls Tryz.prog 43 #[.int .i64 n] w fun e w' => e = .returned (.string ⟨(Lib.itoa n).toArray⟩) ∧ ∃ k os, w' = grow (w.drewN k) os := Any.strconv_Itoa Tryz.laysM171 n h0 h1 w htab
def Tryz.lays171_ren : Go.Shelf.Ren := ⟨fun | 171 => 43 | 243 => 58 | 246 => 73 | 283 => 85 | 284 => 86 | 285 => 87 | 286 => 88 | 129 => 105 | 317 => 108 | 318 => 109 | 319 => 110 | 320 => 111 | 337 => 118 | 338 => 119 | n => n, fun | 3 => 3 | 9 => 9 | 2 => 2 | 4 => 4 | 171 => 137 | 0 => 0 | 53 => 87 | 37 => 32 | 5 => 5 | 173 => 140 | 212 => 161 | 51 => 93 | 20 => 20 | 213 => 162 | 46 => 95 | 232 => 173 | 233 => 174 | n => n, fun | 17 => 2 | 18 => 3 | 19 => 4 | n => n⟩
theorem Tryz.lays171 : Go.Proofs.Lays.n171 Tryz.prog Tryz.lays171_ren := {
  mixed := by kernel_rfl
  f129 := Tryz.func105.trans (congrArg some (by kernel_rfl))
  f171 := Tryz.func43.trans (congrArg some (by kernel_rfl))
  f243 := Tryz.func58.trans (congrArg some (by kernel_rfl))
  f246 := Tryz.func73.trans (congrArg some (by kernel_rfl))
  f283 := Tryz.func85.trans (congrArg some (by kernel_rfl))
  f284 := Tryz.func86.trans (congrArg some (by kernel_rfl))
  f285 := Tryz.func87.trans (congrArg some (by kernel_rfl))
  f286 := Tryz.func88.trans (congrArg some (by kernel_rfl))
  f317 := Tryz.func108.trans (congrArg some (by kernel_rfl))
  f318 := Tryz.func109.trans (congrArg some (by kernel_rfl))
  f319 := Tryz.func110.trans (congrArg some (by kernel_rfl))
  f320 := Tryz.func111.trans (congrArg some (by kernel_rfl))
  f337 := Tryz.func118.trans (congrArg some (by kernel_rfl))
  f338 := Tryz.func119.trans (congrArg some (by kernel_rfl))
  t0 := Tryz.underlying0
  a0 := Tryz.isAgg0
  z0 := Tryz.sizeOf0
  v0 := Tryz.zeroValue0
  t2 := Tryz.underlying2
  a2 := Tryz.isAgg2
  z2 := Tryz.sizeOf2
  v2 := Tryz.zeroValue2
  t3 := Tryz.underlying3
  a3 := Tryz.isAgg3
  z3 := Tryz.sizeOf3
  v3 := Tryz.zeroValue3
  t4 := Tryz.underlying4
  a4 := Tryz.isAgg4
  z4 := Tryz.sizeOf4
  v4 := Tryz.zeroValue4
  t5 := Tryz.underlying5
  a5 := Tryz.isAgg5
  z5 := Tryz.sizeOf5
  v5 := Tryz.zeroValue5
  t9 := Tryz.underlying9
  a9 := Tryz.isAgg9
  z9 := Tryz.sizeOf9
  v9 := Tryz.zeroValue9
  t20 := Tryz.underlying20
  a20 := Tryz.isAgg20
  z20 := Tryz.sizeOf20
  v20 := Tryz.zeroValue20
  t37 := Tryz.underlying32
  a37 := Tryz.isAgg32
  z37 := Tryz.sizeOf32
  v37 := Tryz.zeroValue32
  t46 := Tryz.underlying95
  a46 := Tryz.isAgg95
  z46 := Tryz.sizeOf95
  v46 := Tryz.zeroValue95
  t51 := Tryz.underlying93
  a51 := Tryz.isAgg93
  z51 := Tryz.sizeOf93
  v51 := Tryz.zeroValue93
  t53 := Tryz.underlying87
  a53 := Tryz.isAgg87
  z53 := Tryz.sizeOf87
  v53 := Tryz.zeroValue87
  t171 := Tryz.underlying137
  a171 := Tryz.isAgg137
  z171 := Tryz.sizeOf137
  v171 := Tryz.zeroValue137
  t173 := Tryz.underlying140
  a173 := Tryz.isAgg140
  z173 := Tryz.sizeOf140
  v173 := Tryz.zeroValue140
  t212 := Tryz.underlying161
  a212 := Tryz.isAgg161
  z212 := Tryz.sizeOf161
  v212 := Tryz.zeroValue161
  t213 := Tryz.underlying162
  a213 := Tryz.isAgg162
  z213 := Tryz.sizeOf162
  t232 := Tryz.underlying173
  a232 := Tryz.isAgg173
  z232 := Tryz.sizeOf173
  v232 := Tryz.zeroValue173
  t233 := Tryz.underlying174
  a233 := Tryz.isAgg174
  z233 := Tryz.sizeOf174
  v233 := Tryz.zeroValue174
  g17 := by kernel_rfl
  g18 := by kernel_rfl
  g19 := by kernel_rfl }
open Go.RowKit Go.Sort Go.Lib in
/-- THE ROAD WITHOUT THE TABLE: 0 <= i < 100: NO PREMISE ON THE WORLD, AND THE WORLD IS AS IT WAS: a row that keeps its argument in that range need list no table ('laid = []'). (LAID: no walk: one application.) -/
theorem Tryz.strconv_Itoa_small (i : Nat) (hi : i < 100) (w : World) :
    Calls Tryz.prog 43 #[.int .i64 i] w fun e w' => e = .returned (.string ⟨(Lib.decDigits i).toArray⟩) ∧ w' = w := Any.strconv_Itoa_small Tryz.lays171 i hi w
end Go.Proofs

/- A log's file by its number; the methods that only read, over several segments. -/
namespace Go.Proofs.YtoikjgcggmemaaaGreatDoor
open Go.RowKit Go.Deep Go.Maps
set_option linter.unusedVariables false

/-- the library's table of powers, here and later -/
def TabW (w : World) : Prop := ∀ w', B w w' → Lib.TabIs Tryz.prog w' "internal/strconv.uint64pow10" .u64 Lib.pow10Tab
theorem TabW.later {w w' : World} (h : TabW w) (hb : B w w') : TabW w' := fun w2 h2 => h w2 (hb.trans h2)
theorem grow_B (w : World) (k : Nat) (os : Array Obj) : B w (Sort.grow (w.drewN k) os) :=
  ⟨rfl, rfl, rfl, by show w.heap.size ≤ (w.heap ++ os).size; rw [Array.size_append]; omega, fun j hj => by show (w.heap ++ os)[j]? = w.heap[j]?; exact Array.getElem?_append_left hj⟩
theorem itoa_c {w : World} {n : Nat} (h : TabW w) (hn : n ≤ 9223372036854775807) : Calls Tryz.prog 43 #[.int .i64 (n : Int)] w fun e w' => e = .returned (.string (bstr (Lib.itoa (n : Int)))) ∧ B w w' := by
  have HC := Lib.hid (Tryz.strconv_Itoa (n : Int) (by omega) (by omega) w (h w (Below.refl _ _)))
  refine HC.out.mono ?_
  rintro e wn ⟨rfl, k, os, rfl⟩
  exact ⟨rfl, grow_B _ _ _⟩
theorem dec_len : ∀ n : Nat, n ≤ 9223372036854775807 → (Lib.decDigits n).length ≤ 20 := by
  have go : ∀ (k n : Nat), n < 10 ^ k → (Lib.decDigits n).length ≤ k + 1 := by
    intro k
    induction k with
    | zero => intro n hn; rw [Lib.decDigits, dif_pos (by omega)]; simp
    | succ k ih =>
      intro n hn
      rw [Lib.decDigits]
      split
      · simp
      · have := ih (n / 10) (by rw [Nat.pow_succ] at hn; omega)
        simp only [List.length_append, List.length_singleton]
        omega
  intro n hn
  exact go 19 n (by have : (10 : Nat) ^ 19 = 10000000000000000000 := rfl; omega)
theorem fileN_len {n : Nat} (hn : n ≤ 9223372036854775807) : (fileN n).length ≤ 24 := by
  have := dec_len n hn
  unfold fileN
  rw [itoa_nat]
  simp [nLog]
  omega
theorem file_n {w : World} {n : Nat} (h : TabW w) (hn : n ≤ 9223372036854775807) : Calls Tryz.prog 31 #[.string (bstr nLog), .int .i64 (n : Int)] w fun e w' => e = .returned (.string (bstr (fileN n))) ∧ B w w' := by
  have H := Lib.hid (itoa_c h hn)
  have E := Lib.hid (show bstr nLog ++ ⟨#[46]⟩ ++ bstr (Lib.itoa (n : Int)) = bstr (fileN n) by
    rw [show (⟨#[46]⟩ : ByteArray) = bstr [46] from rfl, bstr_add, bstr_add]; rfl)
  have hs1 : (bstr nLog).size = 3 := rfl
  have hs2 : (bstr nLog ++ ⟨#[46]⟩ : ByteArray).size = 4 := rfl
  have hs3 := bstr_size (Lib.itoa (n : Int))
  have hl := dec_len n hn
  rw [itoa_nat] at hs3
  have q : ¬ 9223372036854775807 < 4 + (bstr (Lib.itoa (n : Int))).size := by rw [itoa_nat]; omega
  clear h hl
  go_enter Tryz.func31, Tryz.ntmps31
  go_wp2_with (first | (go_at_call 43; (with_reducible refine H.out.mono ?_); rintro e w1 ⟨rfl, hb⟩; have HB := Lib.hid hb; clear hb))
  go_ret
  exact ⟨by rw [← E.out]; rfl, HB.out⟩
section
variable {W w : World} {p dp g off c : Nat} {H G : List (Sg × Value)} {sure : Int} {X : List Asn} {x : Sg × Value} {s : Sg} {v : Value} {N : Nat}
/-- numbers that are small enough -/
def Sg.small (s : Sg) : Prop := s.n ≤ 9007199254740992 ∧ s.first + s.L.length ≤ 9007199254740992
theorem Lnone_m (h : St W w (lgM p dp (H ++ [x]) sure g off c ++ X)) : Calls Tryz.prog 27 #[.pointer (some ⟨p, 0, none⟩)] w fun e w' => e = .returned (.bool false) ∧ w = w' := by
  obtain ⟨_, _, _, k3, _⟩ := lgM.cells h
  obtain ⟨n, hn⟩ : ∃ n, (H ++ [x]).length = n + 1 := ⟨H.length, by simp⟩
  rw [hn] at k3
  clear h hn
  go_enter Tryz.func27, Tryz.ntmps27
  go_wp2_with fail
  go_ret
  exact ⟨rfl, rfl⟩
theorem Lend_m (h : St W w (lgM p dp (H ++ [x]) sure g off c ++ X)) {E : Nat} (hE : off + 4 * H.length = E) : Calls Tryz.prog 29 #[.pointer (some ⟨p, 0, none⟩)] w fun e w' => e = .returned (.pointer (some ⟨g, E, none⟩)) ∧ B w w' := by
  subst hE
  obtain ⟨_, _, _, k3, _⟩ := lgM.cells h
  obtain ⟨hl1, hl2⟩ := lgM.len h
  obtain ⟨n, hn⟩ : ∃ n, H.length = n := ⟨_, rfl⟩
  have hn2 : (H ++ [x]).length = n + 1 := by simp [hn]
  rw [hn2] at k3 hl1
  rw [hn]
  have hm : n + 1 ≤ 9223372036854775807 := by unfold maxLen at hl2; omega
  clear h hn hn2 hl2
  go_enter Tryz.func29, Tryz.ntmps29
  go_wp2_with fail
  go_quiet (fail)
  go_wp2_with fail
  go_ret
  exact ⟨by rw [Nat.mul_comm 4 n]; rfl, B.drewN' _⟩
theorem segLast_m (w : World) {s : Sg} (hs : s.small) {A : Option Addr} {c' : Nat} {sz : Int} : Calls Tryz.prog 32 #[.agg #[.int .i64 s.n, .int .i64 s.first, .slice A s.L.length c', .int .i64 sz]] w fun e w' => e = .returned (.int .i64 s.last) ∧ B w w' := by
  obtain ⟨h1, h2⟩ := hs
  have HF := Lib.hid (show (s.first : Int) + (s.L.length : Int) - 1 = s.last from rfl)
  generalize s.first = f at *
  obtain ⟨l, hl⟩ : ∃ l, s.L.length = l := ⟨_, rfl⟩
  rw [hl] at h2 HF ⊢
  have hb : B w (w.alloc (.cells #[.int .i64 s.n, .int .i64 f, .slice A l c', .int .i64 sz] 67)) := B.alloc' _ _
  have HB := Lib.hid hb
  have h3 : (f : Int) + l ≤ 9007199254740992 := by omega
  have h4 : (0 : Int) ≤ f := by omega
  have h5 : (0 : Int) ≤ l := by omega
  generalize (s.n : Int) = n at *
  clear hb hl h1 h2
  go_enter Tryz.func32, Tryz.ntmps32
  go_wp2_with fail
  go_ret
  exact ⟨retI HF.out, HB.out⟩
theorem LLast_m (h : St W w (lgM p dp (H ++ [(s, v)]) sure g off c ++ X)) (hs : s.small) : Calls Tryz.prog 13 #[.pointer (some ⟨p, 0, none⟩)] w fun e w' => e = .returned (.int .i64 s.last) ∧ B w w' := by
  have HN := Lib.hid (Lnone_m h)
  have HEN := Lib.hid (Lend_m h rfl)
  have hi : (H ++ [(s, v)])[H.length]? = some (s, v) := by simp
  obtain ⟨A, c', hv⟩ := lgM.slice h hi
  simp only at hv
  subst hv
  have HS := Lib.hid (fun w' => segLast_m (s := s) w' hs (A := A) (c' := c') (sz := ((segB s).length : Int)))
  obtain ⟨k0, k1, k2, k3⟩ := lgM.seg h hi
  simp only at k0 k1 k2 k3
  generalize off + 4 * H.length = E at *
  clear h hs hi
  generalize s.last = z at *
  go_enter Tryz.func13, Tryz.ntmps13
  go_wp2_with (first
    | (go_at_call 27; (with_reducible refine HN.out.mono ?_); rintro e w1 ⟨rfl, rfl⟩)
    | (go_at_call 29; (with_reducible refine HEN.out.mono ?_); rintro e w2 ⟨rfl, hb⟩; have HB := Lib.hid hb; have l0 := hb.cell k0; have l1 := hb.cell k1; have l2 := hb.cell k2; have l3 := hb.cell k3; clear hb)
    | (go_at_call 32; (with_reducible refine (HS.out _).mono ?_); rintro e w3 ⟨rfl, hb⟩; have HB3 := Lib.hid hb; clear hb))
  go_ret
  exact ⟨rfl, HB.out.trans HB3.out⟩
/-- the cells of a log and of its last segment, wherever it stands -/
theorem lgM.all (A : List Asn) (h : St W w (A ++ (lgM p dp (H ++ [(s, v)]) sure g off c ++ X))) {E : Nat} (hE : off + 4 * H.length = E) : w.cell? ⟨p, 0, none⟩ = some (.pointer (some ⟨dp, 0, none⟩)) ∧ w.cell? ⟨p, 1, none⟩ = some (.string (bstr nLog)) ∧ w.cell? ⟨p, 2, none⟩ = some (.int .i64 64) ∧ w.cell? ⟨p, 3, none⟩ = some (.slice (some ⟨g, off, none⟩) (H.length + 1) c) ∧ w.cell? ⟨p, 4, none⟩ = some (.int .i64 sure) ∧
    w.cell? ⟨g, E, none⟩ = some (.int .i64 s.n) ∧ w.cell? ⟨g, E + 1, none⟩ = some (.int .i64 s.first) ∧ w.cell? ⟨g, E + 2, none⟩ = some v ∧ w.cell? ⟨g, E + 3, none⟩ = some (.int .i64 (segB s).length) := by
  subst hE
  have h1 : St W w (lgM p dp (H ++ [(s, v)]) sure g off c ++ (A ++ X)) := h.perm (List.perm_append_comm_assoc _ _ _)
  obtain ⟨c0, c1, c2, c3, c4⟩ := lgM.cells h1
  rw [show (H ++ [(s, v)]).length = H.length + 1 by simp] at c3
  exact ⟨c0, c1, c2, c3, c4, lgM.seg h1 (i := H.length) (x := (s, v)) (by simp)⟩
theorem lgM.front (A : List Asn) (h : St W w (A ++ (lgM p dp G sure g off c ++ X))) : St W w (lgM p dp G sure g off c ++ (A ++ X)) := h.perm (List.perm_append_comm_assoc _ _ _)
theorem lgM.back (A : List Asn) (h : St W w (lgM p dp G sure g off c ++ (A ++ X))) : St W w (A ++ (lgM p dp G sure g off c ++ X)) := h.perm (List.perm_append_comm_assoc _ _ _)
theorem LSynced_m (h : St W w (lgM p dp (H ++ [x]) sure g off c ++ X)) : Calls Tryz.prog 12 #[.pointer (some ⟨p, 0, none⟩)] w fun e w' => e = .returned (.int .i64 sure) ∧ w = w' := by
  have HN := Lib.hid (Lnone_m h)
  obtain ⟨_, _, _, _, k4⟩ := lgM.cells h
  clear h
  go_enter Tryz.func12, Tryz.ntmps12
  go_wp2_with (first
    | (go_at_call 27; (with_reducible refine HN.out.mono ?_); rintro e w1 ⟨rfl, rfl⟩))
  go_ret
  exact ⟨rfl, rfl⟩
theorem LFirst_m (h : St W w (lgM p dp (H ++ [x]) sure g off c ++ X)) {y : Sg × Value} (hy : (H ++ [x])[0]? = some y) : Calls Tryz.prog 14 #[.pointer (some ⟨p, 0, none⟩)] w fun e w' => e = .returned (.int .i64 y.1.first) ∧ w = w' := by
  have HN := Lib.hid (Lnone_m h)
  obtain ⟨_, _, _, k3, _⟩ := lgM.cells h
  obtain ⟨_, k1, _, _⟩ := lgM.seg h hy
  obtain ⟨n, hn⟩ : ∃ n, (H ++ [x]).length = n + 1 := ⟨H.length, by simp⟩
  rw [hn] at k3
  simp only [Nat.mul_zero, Nat.add_zero] at k1
  clear h hn hy
  go_enter Tryz.func14, Tryz.ntmps14
  go_wp2_with (first
    | (go_at_call 27; (with_reducible refine HN.out.mono ?_); rintro e w1 ⟨rfl, rfl⟩))
  go_ret
  exact ⟨rfl, rfl⟩
end
end Go.Proofs.YtoikjgcggmemaaaGreatDoor

/- Sync, and the next segment: begins, Roll. -/
namespace Go.Proofs.YtoikjgcggmemaaaGreatDoor
open Go.RowKit Go.Deep Go.Maps
set_option linter.unusedVariables false

section
variable {W w : World} {p dp g off c : Nat} {H G : List (Sg × Value)} {T : List Sg} {sure : Int} {X : List Asn} {x : Sg × Value} {s : Sg} {v : Value} {N k : Nat} {d : Dk}
theorem Segs.small (h : Segs T s N) (hN : N ≤ 1099511627776) : s.small := by
  obtain ⟨_, _, h1, h2⟩ := h.one s (by simp)
  exact ⟨by omega, by omega⟩
theorem Segs.many (h : Segs T s N) : T.length + 1 ≤ N := by
  obtain ⟨h1, _, h3, _⟩ := h.one s (by simp)
  have hs : (T ++ [s])[T.length]? = some s := by simp
  obtain ⟨b, hb⟩ : ∃ b, (T ++ [s])[0]? = some b := ⟨_, List.getElem?_eq_getElem (by simp)⟩
  have e := h.consec hs b hb
  have := (h.one b (List.mem_of_getElem? hb)).1
  omega
theorem fileN_max {n : Nat} (hn : n ≤ 9007199254740992) : (fileN n).length ≤ maxLen := by
  have := fileN_len (n := n) (by omega)
  unfold maxLen; omega
set_option maxRecDepth 20000 in
set_option maxHeartbeats 4000000 in
theorem Lsync_m (hT : TabW W) (hS : Segs T s N) (hN : N ≤ 1099511627776) (hD : OnDisk T s k d) (h : St W w (aLgs p dp (T ++ [s]) sure :: aDisk dp d :: X)) :
    Calls Tryz.prog 9 #[.pointer (some ⟨p, 0, none⟩)] w fun e w' => ∃ d', e = .returned (.int .i64 0) ∧ OnDisk T s s.L.length d' ∧ d'.room = d.room ∧ St W w' (aLgs p dp (T ++ [s]) s.last :: aDisk dp d' :: X) := by
  obtain ⟨G, g, off, c, hG, h⟩ := aLgs.open_ h
  obtain ⟨H, v, rfl, hH⟩ := map_snoc hG
  obtain ⟨d', hd1, hd2, hd3⟩ := OnDisk.sync hS hD
  have hsm := hS.small hN
  obtain ⟨E, hE⟩ : ∃ E, off + 4 * H.length = E := ⟨_, rfl⟩
  have HN := Lib.hid (Lnone_m h)
  have H0 := Lib.hid h
  have HEN := Lib.hid (fun (w' : World) (Y : List Asn) (h' : St W w' (lgM p dp (H ++ [(s, v)]) sure g off c ++ Y)) => Lend_m h' hE)
  have HLA := Lib.hid (fun (w' : World) (Y : List Asn) (h' : St W w' (lgM p dp (H ++ [(s, v)]) sure g off c ++ Y)) => LLast_m h' hsm)
  have HCL := Lib.hid (fun (w' : World) (A Y : List Asn) (h' : St W w' (A ++ (lgM p dp (H ++ [(s, v)]) sure g off c ++ Y))) => lgM.all A h' hE)
  have HFI := Lib.hid (fun w' (hb : B W w') => file_n (hT.later hb) (n := s.n) (by have := hsm.1; omega))
  have HSY := Lib.hid (fun (w' : World) (Y : List Asn) (h' : St W w' (aDisk dp d :: Y)) => show Calls Tryz.prog 33 #[.pointer (some ⟨dp, 0, none⟩), .string (bstr (fileN s.n))] w' fun e w'' => e = .returned (.int .i64 0) ∧ St W w'' (aDisk dp d' :: Y) from by
    have := sync_c h' (fileN_max hsm.1)
    rw [hd1] at this
    exact this)
  have HK := Lib.hid (fun w' z (h' : St W w' (lgM p dp (H ++ [(s, v)]) sure g off c ++ (aDisk dp d' :: X))) => aLgs.shut hG (lgM.setSure h' z))
  have HD := Lib.hid (And.intro hd2 hd3)
  obtain ⟨m0, m1, m2, m3, m4, n0, n1, n2, n3⟩ := lgM.all [] h hE
  generalize s.last = z at *
  generalize (s.n : Int) = sn at *
  clear h hd1 hd2 hd3 hS hD hG hH hsm
  go_enter Tryz.func9, Tryz.ntmps9
  go_wp2_with (first
    | (go_at_call 27; (with_reducible refine HN.out.mono ?_); rintro e w1 ⟨rfl, rfl⟩))
  go_region_held3 (fun w' => w'.cell? ⟨p, 0, none⟩ = some (.pointer (some ⟨dp, 0, none⟩)) ∧ w'.cell? ⟨p, 1, none⟩ = some (.string (bstr nLog)) ∧ w'.cell? ⟨g, E, none⟩ = some (.int .i64 sn)) (first | assumption | (refine ⟨?_, ?_, ?_⟩ <;> assumption)) (first
    | (go_at_call 29; (with_reducible refine (HEN.out _ _ (H0.out.later (Below.refl _ _).drew)).mono ?_); rintro e w2 ⟨rfl, hb⟩; have H2 := Lib.hid ((H0.out.later (Below.refl _ _).drew).later hb); clear hb m0 m1 m2 m3 m4 n0 n1 n2 n3; obtain ⟨m0, m1, m2, m3, m4, n0, n1, n2, n3⟩ := HCL.out _ [] _ H2.out)
    | (go_at_call 31; (with_reducible refine (HFI.out _ H2.out.b).mono ?_); rintro e w3 ⟨rfl, hb⟩; have H3 := Lib.hid (H2.out.later hb); clear hb m0 m1 m2 m3 m4 n0 n1 n2 n3; obtain ⟨m0, m1, m2, m3, m4, n0, n1, n2, n3⟩ := HCL.out _ [] _ H3.out)
    | (go_at_call 33; (with_reducible refine (HSY.out _ _ H3.out.deep).mono ?_); rintro e w4 ⟨rfl, h'⟩; have H4 := Lib.hid (lgM.front [_] h'); clear h' m0 m1 m2 m3 m4 n0 n1 n2 n3; obtain ⟨m0, m1, m2, m3, m4, n0, n1, n2, n3⟩ := HCL.out _ [] _ H4.out))
  all_goals
    go_wp2_with (first
      | (go_at_call 13; (with_reducible refine (HLA.out _ _ H4.out).mono ?_); rintro e w5 ⟨rfl, hb⟩; have H5 := Lib.hid (H4.out.later hb); clear hb m0 m1 m2 m3 m4 n0 n1 n2 n3; obtain ⟨m0, m1, m2, m3, m4, n0, n1, n2, n3⟩ := HCL.out _ [] _ H5.out; have f4 := (aBlk.get H5.out).frozen 4))
    go_ret
    exact ⟨d', rfl, HD.out.1, HD.out.2, HK.out _ _ H5.out⟩
/-- what begins leaves -/
def BegPost (W : World) (p dp : Nat) (T : List Sg) (s s' : Sg) (sure : Int) (r : Int) (X : List Asn) (e : Ending) (w' : World) : Prop :=
  ∃ (z : Int) (d' : Dk), e = .returned (.int .i64 z) ∧ d'.room = r ∧ ((z = 6 ∨ z = 30) ∧ OnDisk T s s.L.length d' ∧ St W w' (aLgs p dp (T ++ [s]) sure :: aDisk dp d' :: X) ∨
    z = 0 ∧ OnDisk (T ++ [s]) s' 0 d' ∧ St W w' (aLgs p dp (T ++ [s] ++ [s']) s.last :: aDisk dp d' :: X))
/-- the next segment -/
def Sg.after (s : Sg) : Sg := ⟨s.n + 1, s.first + s.L.length, []⟩
theorem head_big {f : Nat} (hf : f ≤ 9007199254740992) : (headF f).length ≤ 40 ∧ (enc f).length ≤ 10 := ⟨head_len f hf, enc_10 (by omega)⟩
theorem wrapSg (f : Nat) (hf : f ≤ 9007199254740992) : IntKind.u64.wrap (f : Int) = (f : Int) := by simp [IntKind.wrap, IntKind.signed, IntKind.bits]; omega
theorem lgM.off1 (A : List Asn) (h : St W w (A ++ (lgM p dp (H ++ [x]) sure g off c ++ X))) {n : Nat} (hn : H.length = n) : St W w (aOff 67 4 g off (n + 1) c (segsV (H ++ [x])) :: aBlk p 54 (logC dp sure (.slice (some ⟨g, off, none⟩) (n + 1) c)) :: (plsL (H ++ [x]) ++ (A ++ X))) := by
  subst hn
  have h1 := St.swap (lgM.front A h)
  rw [show (H ++ [x]).length = H.length + 1 by simp] at h1
  exact h1
theorem lgM.snoc1 {s' : Sg} {v0 : Value} {g' off' c' n hl : Nat} (hn : H.length = n) (hs : s'.L = []) (hl' : (segB s').length = hl)
    (h : St W w (aOff 67 4 g' off' (n + 1 + 1) c' (segsV (H ++ [x]) ++ [.int .i64 s'.n, .int .i64 s'.first, .slice none 0 0, .int .i64 hl]) :: aBlk p 54 (logC dp sure v0) :: (plsL (H ++ [x]) ++ X))) :
    St W (w.setCell ⟨p, 3, none⟩ (.slice (some ⟨g', off', none⟩) (n + 1 + 1) c')) (lgM p dp (H ++ [x] ++ [(s', Value.slice none 0 0)]) sure g' off' c' ++ X) := by
  subst hn hl'
  have e : (H ++ [x]).length = H.length + 1 := by simp
  rw [← e] at h ⊢
  exact lgM.snoc h hs
set_option maxRecDepth 20000 in
set_option maxHeartbeats 8000000 in
theorem Lbegins_m (hT : TabW W) (hS : Segs T s N) (hN : N + 1 ≤ 1099511627776) (hD : OnDisk T s s.L.length d) (h : St W w (aLgs p dp (T ++ [s]) sure :: aDisk dp d :: X)) :
    Calls Tryz.prog 23 #[.pointer (some ⟨p, 0, none⟩), .int .i64 (s.after.n : Int), .int .i64 (s.after.first : Int)] w (BegPost W p dp T s s.after sure d.room X) := by
  obtain ⟨G, g, off, c, hG, h⟩ := aLgs.open_ h
  obtain ⟨H, v, rfl, hH⟩ := map_snoc hG
  have hsm := hS.small (N := N) (by omega)
  have hsm2 : s.after.small := hS.roll.small (by omega)
  obtain ⟨E, hE⟩ : ∃ E, off + 4 * H.length = E := ⟨_, rfl⟩
  have hls : s.after.last = s.last := by unfold Sg.last Sg.after; simp
  have hmany : H.length + 1 ≤ 1099511627776 := by
    have h1 := congrArg List.length hH
    have h2 := hS.many
    rw [List.length_map] at h1; omega
  have HB := OnDisk.begins hS hD
  have hseg : segB s.after = headF s.after.first := by simp [segB, Sg.after, bodyR]
  have hsL : s.after.L = [] := rfl
  have hrl : (T ++ [s] ++ [s.after]) = (H ++ [(s, v)] ++ [(s.after, (.slice none 0 0 : Value))]).map Prod.fst := by rw [List.map_append, hG]; rfl
  have HB : createF d (fileN s.after.n) = (6, d) ∨
    ∃ d1, createF d (fileN s.after.n) = (0, d1) ∧
      ((appendF d1 (fileN s.after.n) (headF s.after.first) = (30, d1) ∧ ∃ d2, removeF d1 (fileN s.after.n) = (0, d2) ∧ OnDisk T s s.L.length d2 ∧ d2.room = d.room) ∨
       ∃ d2, appendF d1 (fileN s.after.n) (headF s.after.first) = (0, d2) ∧ ∃ d3, syncF d2 (fileN s.after.n) = (0, d3) ∧ OnDisk (T ++ [s]) s.after 0 d3 ∧ d3.room = d.room) := HB
  generalize s.after = s' at *
  obtain ⟨hn1, hf1⟩ := hsm2
  rw [hsL] at hf1
  simp only [List.length_nil, Nat.add_zero] at hf1
  have HSM2 := Lib.hid (show s'.small from ⟨hn1, by rw [hsL]; simpa using hf1⟩)
  have HFI := Lib.hid (fun w' (hb : B W w') => file_n (hT.later hb) (n := s'.n) (by omega))
  have hfm := fileN_max hn1
  obtain ⟨hb1, hb2⟩ := head_big hf1
  have HD := Lib.hid hD
  have HSHUT := Lib.hid (fun w' d' (h' : St W w' (aDisk dp d' :: (lgM p dp (H ++ [(s, v)]) sure g off c ++ X))) => (aLgs.shut hG (lgM.front [_] h') : St W w' (aLgs p dp (T ++ [s]) sure :: aDisk dp d' :: X)))
  obtain ⟨fb, hfb⟩ : ∃ fb, s'.first = fb := ⟨_, rfl⟩
  obtain ⟨nb, hnb⟩ : ∃ nb, s'.n = nb := ⟨_, rfl⟩
  obtain ⟨hl, hhl⟩ : ∃ hl, (headF fb).length = hl := ⟨_, rfl⟩
  obtain ⟨hn, hhn⟩ : ∃ hn, H.length = hn := ⟨_, rfl⟩
  have HSN := Lib.hid (fun w' g' off' c' v0 Y (h' : St W w' (aOff 67 4 g' off' (hn + 1 + 1) c' (segsV (H ++ [(s, v)]) ++ [.int .i64 nb, .int .i64 fb, .slice none 0 0, .int .i64 hl]) :: aBlk p 54 (logC dp sure v0) :: (plsL (H ++ [(s, v)]) ++ Y))) => (show St W (w'.setCell ⟨p, 3, none⟩ (.slice (some ⟨g', off', none⟩) (hn + 1 + 1) c')) (lgM p dp (H ++ [(s, v)] ++ [(s', Value.slice none 0 0)]) sure g' off' c' ++ Y) from lgM.snoc1 (hl := hl) hhn hsL (by rw [hseg, hfb, hhl]) (by rw [hfb, hnb]; exact h')))
  have HL2 := Lib.hid (fun w' g' off' c' Y (h' : St W w' (lgM p dp (H ++ [(s, v)] ++ [(s', Value.slice none 0 0)]) sure g' off' c' ++ Y)) => (show Calls Tryz.prog 13 #[.pointer (some ⟨p, 0, none⟩)] w' fun e w'' => e = .returned (.int .i64 s.last) ∧ B w' w'' from by rw [← hls]; exact LLast_m h' HSM2.out))
  have HSH2 := Lib.hid (fun w' g' off' c' Y (h' : St W w' (lgM p dp (H ++ [(s, v)] ++ [(s', Value.slice none 0 0)]) sure g' off' c' ++ Y)) => (show St W (w'.setCell ⟨p, 4, none⟩ (.int .i64 s.last)) (aLgs p dp (T ++ [s] ++ [s']) s.last :: Y) from aLgs.shut hrl.symm (lgM.setSure h' s.last)))
  rw [hfb, hnb] at HB
  rw [hfb] at hf1 hb1 hb2
  rw [hnb] at hn1 hfm HFI
  rw [hfb, hnb]
  rw [hhl] at hb1
  rw [hhn] at hmany
  have hw := wrapSg fb hf1
  have HPN := Lib.hid (fun (w' : World) (Y : List Asn) (h' : St W w' Y) => show Calls Tryz.prog 45 #[.slice none 0 0, .int .u64 (fb : Int)] w' fun e w'' => ∃ v, e = .returned v ∧ St W w'' (aBy v (enc fb) :: Y) from h'.fresh (putNum70 (Bs.nil w') fb (by omega) (by unfold big; simp)))
  have HFR := Lib.hid (fun w' v Y (h' : St W w' (aBy v (enc fb) :: Y)) => frame_yes h' (h'.byBs (by unfold big; omega)) (by omega))
  have HCR := Lib.hid (fun d1 z (hc : createF d (fileN nb) = (z, d1)) w' Y (h' : St W w' (aDisk dp d :: Y)) => show Calls Tryz.prog 44 #[.pointer (some ⟨dp, 0, none⟩), .string (bstr (fileN nb))] w' fun e w'' => e = .returned (.int .i64 z) ∧ St W w'' (aDisk dp d1 :: Y) from by
    have := create_c h' hfm
    rw [hc] at this
    exact this)
  have HAP := Lib.hid (fun d1 d2 z (hc : appendF d1 (fileN nb) (headF fb) = (z, d2)) w' v Y (h' : St W w' (aDisk dp d1 :: aBy v (headF fb) :: Y)) => show Calls Tryz.prog 30 #[.pointer (some ⟨dp, 0, none⟩), .string (bstr (fileN nb)), v] w' fun e w'' => e = .returned (.int .i64 z) ∧ St W w'' (aDisk dp d2 :: aBy v (headF fb) :: Y) from by
    have := append_c h' hfm (h'.swap.byBs (by unfold big; omega)) (by omega)
    rw [hc] at this
    exact this)
  have HRM := Lib.hid (fun d1 d2 (hc : removeF d1 (fileN nb) = (0, d2)) w' Y (h' : St W w' (aDisk dp d1 :: Y)) => show Calls Tryz.prog 34 #[.pointer (some ⟨dp, 0, none⟩), .string (bstr (fileN nb))] w' fun e w'' => e = .returned (.int .i64 0) ∧ St W w'' (aDisk dp d2 :: Y) from by
    have := remove_c h' hfm
    rw [hc] at this
    exact this)
  have HSY := Lib.hid (fun d1 d2 (hc : syncF d1 (fileN nb) = (0, d2)) w' Y (h' : St W w' (aDisk dp d1 :: Y)) => show Calls Tryz.prog 33 #[.pointer (some ⟨dp, 0, none⟩), .string (bstr (fileN nb))] w' fun e w'' => e = .returned (.int .i64 0) ∧ St W w'' (aDisk dp d2 :: Y) from by
    have := sync_c h' hfm
    rw [hc] at this
    exact this)
  have HCL := Lib.hid (fun (w' : World) (A Y : List Asn) (h' : St W w' (A ++ (lgM p dp (H ++ [(s, v)]) sure g off c ++ Y))) => lgM.all A h' hE)
  have HOF := Lib.hid (fun (w' : World) (A Y : List Asn) (h' : St W w' (A ++ (lgM p dp (H ++ [(s, v)]) sure g off c ++ Y))) => lgM.off1 A h' hhn)
  have H0 := Lib.hid h.deep
  obtain ⟨m0, m1, m2, m3, m4, n0, n1, n2, n3⟩ := lgM.all [] h hE
  rw [hhn] at m3 HCL
  have HHL := Lib.hid hhl
  have o4 : ∀ x ∈ [Value.int .i64 (nb : Int), .int .i64 (fb : Int), .slice none 0 0, .int .i64 (hl : Int)], x.oneCell' = true := by simp [Value.oneCell']
  have h63 : hn + 1 + 1 ≤ maxLen := by unfold maxLen; omega
  have h64 : (hn + 1 + 1) * 48 ≤ 140737488355328 := by omega
  unfold BegPost
  generalize s.last = z at *
  clear h hS hD hG hH hsm hE hls hrl hsL hseg hfb hnb hhl hhn hfm hf1 hn1 hb1 hb2
  rcases HB with hc | ⟨d1, hc, ⟨ha, d2, hr, hD2, hr2⟩ | ⟨d2, ha, d3, hs, hD3, hr3⟩⟩
  · have HC := Lib.hid (HCR.out _ _ hc)
    clear hc HCR HAP HRM HSY HSN HL2 HSH2 HOF HPN HFR
    go_enter Tryz.func23, Tryz.ntmps23
    go_wp2_with (first
      | (go_at_call 31; (with_reducible refine (HFI.out _ H0.out.b).mono ?_); rintro e w1 ⟨rfl, hb⟩; have H1 := Lib.hid (H0.out.later hb); clear hb m0 m1 m2 m3 m4 n0 n1 n2 n3; obtain ⟨m0, m1, m2, m3, m4, n0, n1, n2, n3⟩ := HCL.out _ [_] _ H1.out)
      | (go_at_call 44; (with_reducible refine (HC.out _ _ H1.out).mono ?_); rintro e w2 ⟨rfl, h'⟩; have H2 := Lib.hid h'; clear h'))
    go_ret
    exact ⟨6, d, rfl, rfl, .inl ⟨.inl rfl, HD.out, HSHUT.out _ _ H2.out⟩⟩
  · have HC := Lib.hid (HCR.out _ _ hc)
    have HA := Lib.hid (HAP.out _ _ _ ha)
    have HR := Lib.hid (HRM.out _ _ hr)
    have HD2 := Lib.hid (And.intro hD2 hr2)
    clear hc ha hr hD2 hr2 HCR HAP HRM HSY HSN HL2 HSH2 HOF
    go_enter Tryz.func23, Tryz.ntmps23
    go_wp2_with (first
      | (go_at_call 31; (with_reducible refine (HFI.out _ H0.out.b).mono ?_); rintro e w1 ⟨rfl, hb⟩; have H1 := Lib.hid (H0.out.later hb); clear hb m0 m1 m2 m3 m4 n0 n1 n2 n3; obtain ⟨m0, m1, m2, m3, m4, n0, n1, n2, n3⟩ := HCL.out _ [_] _ H1.out)
      | (go_at_call 44; (with_reducible refine (HC.out _ _ H1.out).mono ?_); rintro e w2 ⟨rfl, h'⟩; have H2 := Lib.hid h'; clear h')
      | (go_at_call 45; (with_reducible refine (HPN.out _ _ H2.out).mono ?_); rintro e w3 ⟨v3, rfl, h'⟩; have H3 := Lib.hid h'; clear h')
      | (go_at_call 28; (with_reducible refine (HFR.out _ _ _ H3.out).mono ?_); rintro e w4 ⟨v4, rfl, h'⟩; have H4 := Lib.hid (show St W w4 (aBy v4 (headF fb) :: _) from h').rot3; clear h' m0 m1 m2 m3 m4 n0 n1 n2 n3; obtain ⟨m0, m1, m2, m3, m4, n0, n1, n2, n3⟩ := HCL.out _ [_, _, _] _ H4.out)
      | (go_at_call 30; (with_reducible refine (HA.out _ _ _ H4.out).mono ?_); rintro e w5 ⟨rfl, h'⟩; have H5 := Lib.hid h'; clear h' m0 m1 m2 m3 m4 n0 n1 n2 n3; obtain ⟨m0, m1, m2, m3, m4, n0, n1, n2, n3⟩ := HCL.out _ [_, _, _] _ H5.out)
      | (go_at_call 34; (with_reducible refine (HR.out _ _ H5.out).mono ?_); rintro e w6 ⟨rfl, h'⟩; have H6 := Lib.hid h'; clear h'))
    go_ret
    exact ⟨30, d2, rfl, HD2.out.2, .inl ⟨.inr rfl, HD2.out.1, HSHUT.out _ _ (H6.out.drop2.drop2)⟩⟩
  · have HC := Lib.hid (HCR.out _ _ hc)
    have HA := Lib.hid (HAP.out _ _ _ ha)
    have HY := Lib.hid (HSY.out _ _ hs)
    have HD2 := Lib.hid (And.intro hD3 hr3)
    clear hc ha hs hD3 hr3 HCR HAP HRM HSY HSHUT
    go_enter Tryz.func23, Tryz.ntmps23
    go_wp2_with (first
      | (go_at_call 31; (with_reducible refine (HFI.out _ H0.out.b).mono ?_); rintro e w1 ⟨rfl, hb⟩; have H1 := Lib.hid (H0.out.later hb); clear hb m0 m1 m2 m3 m4 n0 n1 n2 n3; obtain ⟨m0, m1, m2, m3, m4, n0, n1, n2, n3⟩ := HCL.out _ [_] _ H1.out)
      | (go_at_call 44; (with_reducible refine (HC.out _ _ H1.out).mono ?_); rintro e w2 ⟨rfl, h'⟩; have H2 := Lib.hid h'; clear h')
      | (go_at_call 45; (with_reducible refine (HPN.out _ _ H2.out).mono ?_); rintro e w3 ⟨v3, rfl, h'⟩; have H3 := Lib.hid h'; clear h')
      | (go_at_call 28; (with_reducible refine (HFR.out _ _ _ H3.out).mono ?_); rintro e w4 ⟨v4, rfl, h'⟩; obtain ⟨A4, c4, hv⟩ := h'.bySlice; rw [show (frameF (enc fb)).length = hl from HHL.out] at hv; subst hv; have H4 := Lib.hid (show St W w4 (aBy (.slice A4 hl c4) (headF fb) :: _) from h').rot3; clear h' m0 m1 m2 m3 m4 n0 n1 n2 n3; obtain ⟨m0, m1, m2, m3, m4, n0, n1, n2, n3⟩ := HCL.out _ [_, _, _] _ H4.out)
      | (go_at_call 30; (with_reducible refine (HA.out _ _ _ H4.out).mono ?_); rintro e w5 ⟨rfl, h'⟩; have H5 := Lib.hid h'; clear h' m0 m1 m2 m3 m4 n0 n1 n2 n3; obtain ⟨m0, m1, m2, m3, m4, n0, n1, n2, n3⟩ := HCL.out _ [_, _, _] _ H5.out)
      | (go_at_call 33; (with_reducible refine (HY.out _ _ H5.out).mono ?_); rintro e w6 ⟨rfl, h'⟩; have H6 := Lib.hid h'; clear h' m0 m1 m2 m3 m4 n0 n1 n2 n3; obtain ⟨m0, m1, m2, m3, m4, n0, n1, n2, n3⟩ := HCL.out _ [_, _, _] _ H6.out)
      | (at_builtin; refine wpList_append_Off rfl (.tmp 64) (.tmp 70) 52 rfl Tryz.underlying52 infoSeg rfl (by decide) rfl rfl (HOF.out _ [_, _, _] _ (H6.out.later (B.alloc' _ _))) (Rd.four _ _ _ _ _ _) o4 h63 h64 ?_; intro g7 o7 c7 w7 h'; have H8 := Lib.hid (HSN.out _ _ _ _ _ _ h'); have k73 := (aBlk.get h'.swap).cell 3; have f73 := (aBlk.get h'.swap).frozen 3; simp [logC] at k73; clear h')
      | (go_at_call 13; (with_reducible refine (HL2.out _ _ _ _ _ H8.out).mono ?_); rintro e w9 ⟨rfl, hb⟩; have H9 := Lib.hid (H8.out.later hb); have k94 := (lgM.cells H9.out).2.2.2.2; have f94 := (aBlk.get H9.out).frozen 4; clear hb))
    go_ret
    exact ⟨0, d3, rfl, HD2.out.2, .inr ⟨rfl, HD2.out.1, (HSH2.out _ _ _ _ _ H9.out).rot3.drop.rot3.drop⟩⟩
end
end Go.Proofs.YtoikjgcggmemaaaGreatDoor

/- Roll and Append over several segments. -/
namespace Go.Proofs.YtoikjgcggmemaaaGreatDoor
open Go.RowKit Go.Deep Go.Maps
set_option linter.unusedVariables false

section
variable {W w : World} {p dp g off c : Nat} {H G : List (Sg × Value)} {T : List Sg} {sure : Int} {X : List Asn} {x : Sg × Value} {s : Sg} {v u : Value} {b : List UInt8} {N k : Nat} {d : Dk}
set_option maxRecDepth 20000 in
set_option maxHeartbeats 4000000 in
theorem Lroll_m (hT : TabW W) (hS : Segs T s N) (hN : N + 1 ≤ 1099511627776) (hD : OnDisk T s k d) (h : St W w (aLgs p dp (T ++ [s]) sure :: aDisk dp d :: X)) :
    Calls Tryz.prog 10 #[.pointer (some ⟨p, 0, none⟩)] w (BegPost W p dp T s s.after s.last d.room X) := by
  have hsm := hS.small (by omega)
  have HSY := Lib.hid (Lsync_m hT hS (by omega) hD h)
  have e1 : ((s.after.n : Nat) : Int) = IntKind.i64.wrap ((s.n : Int) + 1) := by
    have := hsm.1
    simp [Sg.after, IntKind.wrap, IntKind.signed, IntKind.bits]; omega
  have e2 : ((s.after.first : Nat) : Int) = IntKind.i64.wrap (s.last + 1) := by
    have := hsm.2
    simp [Sg.after, Sg.last, IntKind.wrap, IntKind.signed, IntKind.bits]; omega
  have HBG := Lib.hid (fun w' d1 (hD1 : OnDisk T s s.L.length d1) (hr : d1.room = d.room) (h' : St W w' (aLgs p dp (T ++ [s]) s.last :: aDisk dp d1 :: X)) => show Calls Tryz.prog 23 #[.pointer (some ⟨p, 0, none⟩), .int .i64 (IntKind.i64.wrap ((s.n : Int) + 1)), .int .i64 (IntKind.i64.wrap (s.last + 1))] w' (BegPost W p dp T s s.after s.last d.room X) from by
    have := Lbegins_m hT hS hN hD1 h'
    rw [e1, e2, hr] at this
    exact this)
  have b1 : (0 : Int) ≤ (s.n : Int) := by omega
  have b2 : (s.n : Int) ≤ 9007199254740992 := by have := hsm.1; omega
  have b3 : -1 ≤ s.last := by unfold Sg.last; omega
  have b4 : s.last ≤ 9007199254740992 := by have := hsm.2; unfold Sg.last; omega
  have HSM := Lib.hid hsm
  clear h hS hD hsm e1 e2
  have HOP := Lib.hid (fun (w' : World) (z : Int) (Y : List Asn) (h' : St W w' (aLgs p dp (T ++ [s]) z :: Y)) => show ∃ g off c H v E, St W w' (lgM p dp (H ++ [(s, v)]) z g off c ++ Y) ∧ off + 4 * H.length = E from by
    obtain ⟨G, g, off, c, hG, h2⟩ := aLgs.open_ h'
    obtain ⟨H, v, rfl, hH⟩ := map_snoc hG
    exact ⟨g, off, c, H, v, _, h2, rfl⟩)
  go_enter Tryz.func10, Tryz.ntmps10
  go_wp2_with (first
    | (go_at_call 9; (with_reducible refine HSY.out.mono ?_); rintro e w1 ⟨d1, rfl, hD1, hr1, h'⟩; have HD1 := Lib.hid (And.intro hD1 hr1); have H1 := Lib.hid h'; obtain ⟨g, off, c, H, v, E, ho, hE⟩ := HOP.out _ _ _ h'; have H1o := Lib.hid ho; have HE := Lib.hid hE; obtain ⟨m0, m1, m2, m3, m4, n0, n1, n2, n3⟩ := lgM.all [] ho hE; clear h' ho hE hD1 hr1))
  obtain ⟨z, hz⟩ : ∃ z, s.last = z := ⟨_, rfl⟩
  have HLA := Lib.hid (fun (w' : World) (Y : List Asn) (h' : St W w' (lgM p dp (H ++ [(s, v)]) z g off c ++ Y)) => show Calls Tryz.prog 13 #[.pointer (some ⟨p, 0, none⟩)] w' fun e w'' => e = .returned (.int .i64 z) ∧ B w' w'' from by rw [← hz] at h' ⊢; exact LLast_m h' HSM.out)
  rw [hz] at HBG H1 H1o b3 b4 m4 ⊢
  obtain ⟨sn, hsn⟩ : ∃ sn : Int, (s.n : Int) = sn := ⟨_, rfl⟩
  have HN0 := Lib.hid (fun (w' : World) (Y : List Asn) (h' : St W w' (lgM p dp (H ++ [(s, v)]) z g off c ++ Y)) => show w'.cell? ⟨g, E, none⟩ = some (.int .i64 sn) from by rw [← hsn]; exact (lgM.all [] h' HE.out).2.2.2.2.2.1)
  rw [hsn] at b1 b2 n0 HBG
  have HZ := Lib.hid hz
  clear hz hsn m0 m1 m2 m3 m4 n1 n2 n3
  go_region_with (first
    | (go_at_call 29; (with_reducible refine (Lend_m (H1o.out.later (Below.refl _ _).drew) HE.out).mono ?_); rintro e w2 ⟨rfl, hb⟩; have H2 := Lib.hid ((H1.out.later (Below.refl _ _).drew).later hb); have H2o := Lib.hid ((H1o.out.later (Below.refl _ _).drew).later hb); clear hb n0; have n0 := HN0.out _ _ H2o.out)
    | (go_at_call 13; (with_reducible refine (HLA.out _ _ H2o.out).mono ?_); rintro e w3 ⟨rfl, hb⟩; have H3 := Lib.hid (H2.out.later hb); have H3o := Lib.hid (H2o.out.later hb); clear hb n0; have n0 := HN0.out _ _ H3o.out)
    | (go_at_call 23; (with_reducible refine (HBG.out _ _ HD1.out.1 HD1.out.2 H3.out).mono ?_); rintro e w4 hP; obtain ⟨y, d2, rfl, hP2⟩ := hP; have HP := Lib.hid hP2; clear hP2))
  all_goals
    go_wp2_with fail
    go_ret
    exact ⟨y, d2, rfl, by have := HP.out; rw [← HZ.out] at this; exact this⟩
/-- before a record is put: as it was, synced, or in the next segment -/
def Grown (T : List Sg) (s : Sg) (k : Nat) (T1 : List Sg) (s1 : Sg) (k1 : Nat) : Prop := (T1 = T ∧ s1 = s ∧ k1 = k) ∨ (T1 = T ∧ s1 = s ∧ k1 = s.L.length) ∨ (T1 = T ++ [s] ∧ s1 = s.after ∧ k1 = 0)
def Sg.put (s : Sg) (b : List UInt8) : Sg := { s with L := s.L ++ [b] }
def sureOf (s : Sg) (k : Nat) : Int := (s.first : Int) + k - 1
/-- what Append leaves -/
def AppPost (W : World) (p dp : Nat) (T : List Sg) (s : Sg) (k : Nat) (b : List UInt8) (r : Int) (X : List Asn) (e : Ending) (w' : World) : Prop :=
  ∃ (T1 : List Sg) (s1 : Sg) (k1 : Nat) (z : Int) (d' : Dk), Grown T s k T1 s1 k1 ∧ d'.room = r ∧
    (z ≠ 0 ∧ e = .returned (.tuple #[.int .i64 0, .int .i64 z]) ∧ OnDisk T1 s1 k1 d' ∧ St W w' (aLgs p dp (T1 ++ [s1]) (sureOf s1 k1) :: aDisk dp d' :: X) ∨
     z = 0 ∧ e = .returned (.tuple #[.int .i64 (s1.put b).last, .int .i64 z]) ∧ b.length ≤ 524288 ∧ OnDisk T1 (s1.put b) k1 d' ∧ St W w' (aLgs p dp (T1 ++ [s1.put b]) (sureOf s1 k1) :: aDisk dp d' :: X))
theorem used_one {R : List Fl} {f : Fl} (h : f ∈ R) : f.b.length ≤ usedF R := by
  induction R with
  | nil => cases h
  | cons a R ih =>
    simp only [usedF, List.map_cons, List.sum_cons] at ih ⊢
    rcases List.mem_cons.1 h with rfl | h
    · omega
    · have := ih h; omega
theorem OnDisk.size (h : OnDisk T s k d) : (segB s).length ≤ 4194304 := by
  have h1 := used_one h.last
  have h2 := h.ok.used
  have h3 := h.ok.room
  simp only [lastFl] at h1
  omega
theorem Grown.segs {T1 : List Sg} {s1 : Sg} {k1 : Nat} (h : Grown T s k T1 s1 k1) (hS : Segs T s N) : Segs T1 s1 (N + 1) := by
  rcases h with ⟨rfl, rfl, _⟩ | ⟨rfl, rfl, _⟩ | ⟨rfl, rfl, _⟩
  · exact hS.up (by omega)
  · exact hS.up (by omega)
  · exact hS.roll
theorem lgM.ofLastA {n : Nat} (A : List Asn) (hn : H.length = n) (h : St W w (A ++ (aPl v s.L :: aOff 67 4 g off (n + 1) c (segsV (H ++ [(s, v)])) :: aBlk p 54 (logC dp sure (.slice (some ⟨g, off, none⟩) (n + 1) c)) :: (plsL H ++ X)))) : St W w (lgM p dp (H ++ [(s, v)]) sure g off c ++ (A ++ X)) := by
  subst hn
  exact lgM.of_last (x := (s, v)) (h.perm (List.perm_append_comm_assoc A (aPl v s.L :: aOff 67 4 g off (H.length + 1) c (segsV (H ++ [(s, v)])) :: aBlk p 54 (logC dp sure (.slice (some ⟨g, off, none⟩) (H.length + 1) c)) :: plsL H) X))
theorem lgM.addCells {v' : Value} {M : List (List UInt8)} {n E : Nat} (hn : H.length = n) (hE : off + 4 * H.length = E) (h : St W w (aPl v' M :: aOff 67 4 g off (n + 1) c (segsV (H ++ [(s, v)])) :: X)) :
    w.cell? ⟨g, E, none⟩ = some (.int .i64 s.n) ∧ w.cell? ⟨g, E + 1, none⟩ = some (.int .i64 s.first) ∧ w.cell? ⟨g, E + 2, none⟩ = some v ∧ w.cell? ⟨g, E + 3, none⟩ = some (.int .i64 (segB s).length) ∧ w.frozen? ⟨g, E + 2, none⟩ = false ∧ w.frozen? ⟨g, E + 3, none⟩ = false := by
  subst hE hn
  have hi : (H ++ [(s, v)])[H.length]? = some (s, v) := by simp
  have hs := St.swap h
  have k0 := aOff.cell hs (segsV_at hi (j := 0) rfl)
  have k1 := aOff.cell hs (segsV_at hi (j := 1) rfl)
  have k2 := aOff.cell hs (segsV_at hi (j := 2) rfl)
  have k3 := aOff.cell hs (segsV_at hi (j := 3) rfl)
  simp only [← Nat.add_assoc, Nat.add_zero] at k0 k1 k2 k3
  exact ⟨k0, k1, k2, k3, aOff.frozen hs _, aOff.frozen hs _⟩
theorem lgM.shutA {B : List Sg} (A : List Asn) (hG : G.map Prod.fst = B) (h : St W w (A ++ (lgM p dp G sure g off c ++ X))) : St W w (aLgs p dp B sure :: (A ++ X)) := aLgs.shut hG (lgM.front A h)
theorem lgM.lastA {n : Nat} (A : List Asn) (hn : H.length = n) (h : St W w (A ++ (lgM p dp (H ++ [(s, v)]) sure g off c ++ X))) : St W w (aPl v s.L :: aOff 67 4 g off (n + 1) c (segsV (H ++ [(s, v)])) :: aBlk p 54 (logC dp sure (.slice (some ⟨g, off, none⟩) (n + 1) c)) :: (plsL H ++ (A ++ X))) := by
  subst hn
  exact lgM.last (x := (s, v)) (lgM.front A h)
theorem lgM.putA {n E sz fl : Nat} {v' : Value} (hn : H.length = n) (hE : off + 4 * H.length = E) (hsz : (segB s).length = sz) (hfl : (frameF b).length = fl) (hG : (H ++ [(s, v)]).map Prod.fst = T ++ [s])
    (h : St W w (aPl v' (s.L ++ [b]) :: aOff 67 4 g off (n + 1) c (segsV (H ++ [(s, v)])) :: aBlk p 54 (logC dp sure (.slice (some ⟨g, off, none⟩) (n + 1) c)) :: (plsL H ++ X))) :
    St W ((w.setCell ⟨g, E + 2, none⟩ v').setCell ⟨g, E + 3, none⟩ (.int .i64 ((sz : Int) + (fl : Int)))) (aLgs p dp (T ++ [Sg.put s b]) sure :: X) := by
  subst hn hE hsz hfl
  have h1 := lgM.add h
  refine aLgs.shut (G := H ++ [(Sg.put s b, v')]) ?_ h1
  rw [List.map_append] at hG ⊢
  obtain ⟨q1, q2⟩ := List.append_inj' hG rfl
  rw [q1]
  rfl
theorem lgM.n2A {n E : Nat} (A : List Asn) (hn : H.length = n) (hE : off + 4 * H.length = E) (h : St W w (A ++ (aPl v s.L :: aOff 67 4 g off (n + 1) c (segsV (H ++ [(s, v)])) :: aBlk p 54 (logC dp sure (.slice (some ⟨g, off, none⟩) (n + 1) c)) :: (plsL H ++ X)))) : w.cell? ⟨g, E + 2, none⟩ = some v :=
  (lgM.all [] (lgM.ofLastA A hn h) hE).2.2.2.2.2.2.2.1
set_option maxRecDepth 20000 in
theorem Lappend_no (hu : Bs W u b) (hb : ¬ b.length ≤ 524288) (hD : OnDisk T s k d) (h : St W w (aLgs p dp (T ++ [s]) (sureOf s k) :: aDisk dp d :: X)) :
    Calls Tryz.prog 7 #[.pointer (some ⟨p, 0, none⟩), u] w (AppPost W p dp T s k b d.room X) := by
  have H0 := Lib.hid h
  have HD := Lib.hid hD
  obtain ⟨G, g, off, c, hG, h⟩ := aLgs.open_ h
  obtain ⟨H, v, rfl, hH⟩ := map_snoc hG
  have HN := Lib.hid (Lnone_m h)
  have HFR := Lib.hid (frame_no h (hu.later h.b) hb)
  clear h hu hb hG hH hD
  go_enter Tryz.func7, Tryz.ntmps7
  go_wp2_with (first
    | (go_at_call 27; (with_reducible refine HN.out.mono ?_); rintro e w1 ⟨rfl, rfl⟩)
    | (go_at_call 28; (with_reducible refine HFR.out.mono ?_); rintro e w2 ⟨rfl, rfl⟩))
  go_ret2
  exact ⟨T, s, k, 3, d, .inl ⟨rfl, rfl, rfl⟩, rfl, .inl ⟨by omega, rfl, HD.out, H0.out⟩⟩
set_option maxRecDepth 20000 in
set_option maxHeartbeats 16000000 in
theorem Lappend_m (hT : TabW W) (hS : Segs T s N) (hN : N + 2 ≤ 1099511627776) (hD : OnDisk T s k d) (hu : Bs W u b) (hb : b.length ≤ 524288) (h : St W w (aLgs p dp (T ++ [s]) (sureOf s k) :: aDisk dp d :: X)) :
    Calls Tryz.prog 7 #[.pointer (some ⟨p, 0, none⟩), u] w (AppPost W p dp T s k b d.room X) := by
  have hu0 : Bs w u b := hu.later h.b
  obtain ⟨Au, cu, rfl⟩ := hu0.rd.slice
  have HFL := Lib.hid (frame_len hb)
  have HU := Lib.hid hu
  have HBB := Lib.hid hb
  obtain ⟨fl, hfl⟩ : ∃ fl, (frameF b).length = fl := ⟨_, rfl⟩
  have HFLE := Lib.hid hfl
  have hfl2 : fl ≤ 524302 := by have := HFL.out; omega
  obtain ⟨bl, hbl⟩ : ∃ bl, b.length = bl := ⟨_, rfl⟩
  have HBL := Lib.hid hbl
  have hmk := fun w' => run_mk8 w' bl (by omega)
  have HTT := Lib.hid hT
  have HSG := Lib.hid hS
  have HDD := Lib.hid hD
  have HRL := Lib.hid (fun (w' : World) (vf : Value) (h' : St W w' (aLgs p dp (T ++ [s]) (sureOf s k) :: aDisk dp d :: aBy vf (frameF b) :: X)) => Lroll_m hT hS (by omega) hD h')
  obtain ⟨G, g, off, c, hG, h⟩ := aLgs.open_ h
  obtain ⟨H, v, rfl, hH⟩ := map_snoc hG
  obtain ⟨A1, c1, hv⟩ := lgM.slice h (i := H.length) (x := (s, v)) (by simp)
  simp only at hv
  subst hv
  have HN := Lib.hid (Lnone_m h)
  have HFR := Lib.hid (frame_yes (h.deep) hu0 hb)
  obtain ⟨E, hE⟩ : ∃ E, off + 4 * H.length = E := ⟨_, rfl⟩
  obtain ⟨hn, hhn⟩ : ∃ hn, H.length = hn := ⟨_, rfl⟩
  have hsm := hS.small (N := N) (by omega)
  have hsm2 : (Sg.put s b).small := (hS.append HBB.out).small (by omega)
  have hsz := hD.size
  have hl3 : s.L.length + 1 ≤ 1099511627776 := by have := hS.one s (by simp); omega
  obtain ⟨l, hl⟩ : ∃ l, s.L.length = l := ⟨_, rfl⟩
  obtain ⟨sz, hsz3⟩ : ∃ sz, (segB s).length = sz := ⟨_, rfl⟩
  have HCL := Lib.hid (fun (w' : World) (A Y : List Asn) (h' : St W w' (A ++ (lgM p dp (H ++ [(s, Value.slice A1 l c1)]) (sureOf s k) g off c ++ Y))) => lgM.all A h' hE)
  have HEN := Lib.hid (fun (w' : World) (A Y : List Asn) (h' : St W w' (A ++ (lgM p dp (H ++ [(s, Value.slice A1 l c1)]) (sureOf s k) g off c ++ Y))) => Lend_m (lgM.front A h') hE)
  rw [hl] at hG h
  have HSH := Lib.hid (fun (w' : World) (A Y : List Asn) (h' : St W w' (A ++ (lgM p dp (H ++ [(s, Value.slice A1 l c1)]) (sureOf s k) g off c ++ Y))) => lgM.shutA A hG h')
  have HLS := Lib.hid (fun (w' : World) (A Y : List Asn) (h' : St W w' (A ++ (lgM p dp (H ++ [(s, Value.slice A1 l c1)]) (sureOf s k) g off c ++ Y))) => lgM.lastA A hhn h')
  have HFI := Lib.hid (fun w' (hb : B W w') => file_n (HTT.out.later hb) (n := s.n) (by have := hsm.1; omega))
  have hfm := fileN_max hsm.1
  have HAP := Lib.hid (fun w' z d' v Y (hc : appendF d (fileN s.n) (frameF b) = (z, d')) (h' : St W w' (aDisk dp d :: Y)) (hv : Bs w' v (frameF b)) => show Calls Tryz.prog 30 #[.pointer (some ⟨dp, 0, none⟩), .string (bstr (fileN s.n)), v] w' fun e w'' => e = .returned (.int .i64 z) ∧ St W w'' (aDisk dp d' :: Y) from by
    have := append_c h' hfm hv (by have := HFL.out; omega)
    rw [hc] at this
    exact this)
  have HAD := Lib.hid (fun (w' : World) (A5 : Option Addr) (c5 : Nat) (Y : List Asn) (h' : St W w' (aPl (.slice A5 (l + 1) c5) (s.L ++ [b]) :: aOff 67 4 g off (hn + 1) c (segsV (H ++ [(s, Value.slice A1 l c1)])) :: aBlk p 54 (logC dp (sureOf s k) (.slice (some ⟨g, off, none⟩) (hn + 1) c)) :: (plsL H ++ Y))) => lgM.putA hhn hE hsz3 HFLE.out hG h')
  have HAC := Lib.hid (fun (w' : World) (v' : Value) (M : List (List UInt8)) (Y : List Asn) (h' : St W w' (aPl v' M :: aOff 67 4 g off (hn + 1) c (segsV (H ++ [(s, Value.slice A1 l c1)])) :: Y)) => lgM.addCells hhn hE h')
  have HOL := Lib.hid (fun (w' : World) (A Y : List Asn) (h' : St W w' (A ++ (aPl (.slice A1 l c1) s.L :: aOff 67 4 g off (hn + 1) c (segsV (H ++ [(s, Value.slice A1 l c1)])) :: aBlk p 54 (logC dp (sureOf s k) (.slice (some ⟨g, off, none⟩) (hn + 1) c)) :: (plsL H ++ Y)))) => lgM.n2A A hhn hE h')
  have HPA := Lib.hid (fun (w' : World) (x : Value) (Y : List Asn) (h' : St W w' (aPl (.slice A1 l c1) s.L :: aBy x b :: Y)) => (show ∃ A5 c5 w8, (Builtin.append_ #[65, 65] 65 #[.slice A1 l c1, .slice (some ⟨w'.heap.size, 0, none⟩) 1 1]).run Tryz.prog (w'.alloc (.cells #[x] 32)) = .ok (.slice A5 (l + 1) c5) w8 ∧ St W w8 (aPl (.slice A5 (l + 1) c5) (s.L ++ [b]) :: Y) from by
    have := St.plAppend (ty := 65) h' (by have := HBB.out; unfold big; omega) hl3
    rw [hl] at this
    exact this))
  have HSL := Lib.hid (fun w' A5 c5 z5 => (show Calls Tryz.prog 32 #[.agg #[.int .i64 s.n, .int .i64 s.first, .slice A5 (l + 1) c5, .int .i64 z5]] w' fun e w'' => e = .returned (.int .i64 (Sg.put s b).last) ∧ B w' w'' from by
    have := segLast_m (s := Sg.put s b) w' hsm2 (A := A5) (c' := c5) (sz := z5)
    rw [show (Sg.put s b).L.length = l + 1 by simp [Sg.put, hl]] at this
    exact this))
  rw [hsz3] at hsz HCL
  rw [hhn] at HCL
  have HDA := Lib.hid (OnDisk.append hS hD b)
  have HD1 := Lib.hid hD
  rw [hbl] at HFR HU ⊢
  rw [hl] at HFR
  clear h hu hb hu0 hfl hbl hS hD hsm hsm2 hT hE hhn hfm hl hl3
  go_enter Tryz.func7, Tryz.ntmps7
  go_wp2_with (first
    | (go_at_call 27; (with_reducible refine HN.out.mono ?_); rintro e w1 ⟨rfl, rfl⟩)
    | (go_at_call 28; (with_reducible refine HFR.out.mono ?_); rintro e w2 ⟨vf, rfl, h'⟩; obtain ⟨Af, cf, hv⟩ := h'.bySlice; rw [HFLE.out] at hv; subst hv; have H2 := Lib.hid (show St W w2 (aDisk dp d :: aBy (.slice Af fl cf) (frameF b) :: _) from h'.swap); clear h')
    | (go_at_call 29; (with_reducible refine (HEN.out _ [_, _] _ H2.out).mono ?_); rintro e w3 ⟨rfl, hb⟩; have H3 := Lib.hid (H2.out.later hb); obtain ⟨m0, m1, m2, m3, m4, n0, n1, n2, n3⟩ := HCL.out _ [_, _] _ H3.out; clear hb))
  have hcase : (¬ 0 < l ∨ 0 < l ∧ ¬ (64 : Int) ≤ (sz : Int)) ∨ (0 < l ∧ (64 : Int) ≤ (sz : Int)) := by omega
  rcases hcase with hno | ⟨p1, p2⟩
  · rcases hno with p1 | ⟨p1, p2⟩
    all_goals
      go_quiet (fail)
      have HGR := Lib.hid (show Grown T s k T s k from .inl ⟨rfl, rfl, rfl⟩)
      go_wp2_with (first
        | (go_at_call 29; (with_reducible refine (HEN.out _ [_, _] _ (H3.out.drewN _)).mono ?_); rintro e w4 ⟨rfl, hb⟩; have H4 := Lib.hid ((H3.out.drewN _).later hb); clear hb m0 m1 m2 m3 m4 n0 n1 n2 n3; obtain ⟨m0, m1, m2, m3, m4, n0, n1, n2, n3⟩ := HCL.out _ [_, _] _ H4.out))
      rcases HDA.out with ha | ⟨d2, ha, hD2, hr2⟩
      · have HA := Lib.hid ha
        clear ha
        go_region_held3 (fun w' => w'.cell? ⟨p, 0, none⟩ = some (.pointer (some ⟨dp, 0, none⟩)) ∧ w'.cell? ⟨p, 1, none⟩ = some (.string (bstr nLog)) ∧ w'.cell? ⟨g, E, none⟩ = some (.int .i64 s.n)) (first | assumption | (refine ⟨?_, ?_, ?_⟩ <;> assumption)) (first
          | (go_at_call 31; (with_reducible refine (HFI.out _ (H4.out.later (Below.refl _ _).drew).b).mono ?_); rintro e w5 ⟨rfl, hb⟩; have H5 := Lib.hid ((H4.out.later (Below.refl _ _).drew).later hb); clear hb m0 m1 m2 m3 m4 n0 n1 n2 n3; obtain ⟨m0, m1, m2, m3, m4, n0, n1, n2, n3⟩ := HCL.out _ [_, _] _ H5.out)
          | (go_at_call 30; (with_reducible refine (HAP.out _ _ _ _ _ HA.out H5.out (H5.out.swap.byBs (by have := HFL.out; unfold big; omega))).mono ?_); rintro e w6 ⟨rfl, h'⟩; have H6 := Lib.hid h'; clear h' m0 m1 m2 m3 m4 n0 n1 n2 n3; obtain ⟨m0, m1, m2, m3, m4, n0, n1, n2, n3⟩ := HCL.out _ [_, _] _ H6.out))
        all_goals
          go_wp2_with fail
          go_ret2
          exact ⟨T, s, k, 30, d, HGR.out, rfl, .inl ⟨by omega, rfl, HD1.out, (HSH.out _ [_, _] _ H6.out).rot3.drop⟩⟩
      · have HA := Lib.hid ha
        have HD2 := Lib.hid (And.intro hD2 hr2)
        clear ha hD2 hr2
        go_region_held3 (fun w' => w'.cell? ⟨p, 0, none⟩ = some (.pointer (some ⟨dp, 0, none⟩)) ∧ w'.cell? ⟨p, 1, none⟩ = some (.string (bstr nLog)) ∧ w'.cell? ⟨g, E, none⟩ = some (.int .i64 s.n)) (first | assumption | (refine ⟨?_, ?_, ?_⟩ <;> assumption)) (first
          | (go_at_call 31; (with_reducible refine (HFI.out _ (H4.out.later (Below.refl _ _).drew).b).mono ?_); rintro e w5 ⟨rfl, hb⟩; have H5 := Lib.hid ((H4.out.later (Below.refl _ _).drew).later hb); clear hb m0 m1 m2 m3 m4 n0 n1 n2 n3; obtain ⟨m0, m1, m2, m3, m4, n0, n1, n2, n3⟩ := HCL.out _ [_, _] _ H5.out)
          | (go_at_call 30; (with_reducible refine (HAP.out _ _ _ _ _ HA.out H5.out (H5.out.swap.byBs (by have := HFL.out; unfold big; omega))).mono ?_); rintro e w6 ⟨rfl, h'⟩; have H6 := Lib.hid h'; clear h' m0 m1 m2 m3 m4 n0 n1 n2 n3; obtain ⟨m0, m1, m2, m3, m4, n0, n1, n2, n3⟩ := HCL.out _ [_, _] _ H6.out))
        all_goals
          go_wp2_with (first
            | (at_builtin; refine wpList_append_run rfl (.tmp 77) (.tmp 79) 65 rfl rfl rfl hrun ?_)
            | (go_at_call 32; (with_reducible refine (HSL.out _ _ _ _).mono ?_); rintro e w9 ⟨rfl, hb⟩; have H10 := Lib.hid (H9.out.later hb); clear hb)
            | ((with_reducible refine wpList_copy_B (u := Value.slice Au bl cu) rfl (.tmp 70) (.tmp 71) rfl rfl rfl HBL.out (HLS.out _ [_, _] _ H6.out) (HU.out.later H6.out.b) ?_); intro w7 hS; obtain ⟨A5, c5, w8, hrun, hS8⟩ := HPA.out _ _ _ hS.swap; have H9 := Lib.hid (HAD.out _ _ _ _ hS8); have l7 := HOL.out _ [_] _ hS; obtain ⟨a80, a81, a82, a83, f82, f83⟩ := HAC.out _ _ _ _ hS8; rw [hsz3] at a83; clear hS hS8 m0 m1 m2 m3 m4 n0 n1 n2 n3))
          go_ret2
          exact ⟨T, s, k, 0, d2, HGR.out, by rw [HD2.out.2], .inr ⟨rfl, rfl, HBB.out, HD2.out.1, H10.out.rot3.drop⟩⟩
  · go_quiet (fail)
    go_wp2_with (first
      | (go_at_call 10; (with_reducible refine (HRL.out _ _ (HSH.out _ [_, _] _ (H3.out.drewN _))).mono ?_); rintro e w4 ⟨z, d1, rfl, hr1, hP⟩; have HP := Lib.hid (And.intro hr1 hP); clear hr1 hP))
    · rename_i hz
      go_ret2
      obtain ⟨hr1, ⟨hz2, hD1, h'⟩ | ⟨hz2, _⟩⟩ := HP.out
      · exact ⟨T, s, s.L.length, z, d1, .inr (.inl ⟨rfl, rfl, rfl⟩), hr1, .inl ⟨by omega, rfl, hD1, h'.rot3.drop⟩⟩
      · simp [hz2] at hz
    · have hz0 : z = 0 := by
        have hq : (z != 0) = false := by assumption
        exact bne_eq_false_iff_eq.1 hq
      clear m0 m1 m2 m3 m4 n0 n1 n2 n3 p1 p2 HDA HD1 HSL HPA HOL HAC HAD HAP HFI HLS HSH HCL HEN H2 H3
      obtain ⟨hr1, ⟨hz2, _⟩ | ⟨hz2, hD, h⟩⟩ := HP.out
      · omega
      obtain ⟨T2, hT2⟩ : ∃ T2, T ++ [s] = T2 := ⟨_, rfl⟩
      obtain ⟨s2, hs2⟩ : ∃ s2, s.after = s2 := ⟨_, rfl⟩
      have hsu : s.last = sureOf s.after 0 := by unfold sureOf Sg.last Sg.after; simp
      have hS := HSG.out.roll
      rw [show (⟨s.n + 1, s.first + s.L.length, []⟩ : Sg) = s.after from rfl] at hS
      rw [hsu] at h
      rw [hT2, hs2] at h hD hS
      have HGR := Lib.hid (show Grown T s k T2 s2 0 from .inr (.inr ⟨hT2.symm, hs2.symm, rfl⟩))
      have HRO := Lib.hid hr1
      clear HP hr1 hsu hT2 hs2
      obtain ⟨G, g, off, c, hG, h⟩ := aLgs.open_ h
      obtain ⟨H, v, rfl, hH⟩ := map_snoc hG
      obtain ⟨A1, c1, hv⟩ := lgM.slice h (i := H.length) (x := (s2, v)) (by simp)
      simp only at hv
      subst hv
      obtain ⟨E, hE⟩ : ∃ E, off + 4 * H.length = E := ⟨_, rfl⟩
      obtain ⟨hn, hhn⟩ : ∃ hn, H.length = hn := ⟨_, rfl⟩
      have hsm := hS.small (N := (N + 1)) (by omega)
      have hsm2 : (Sg.put s2 b).small := (hS.append HBB.out).small (by omega)
      have hsz := hD.size
      have hl3 : s2.L.length + 1 ≤ 1099511627776 := by have := hS.one s2 (by simp); omega
      obtain ⟨l, hl⟩ : ∃ l, s2.L.length = l := ⟨_, rfl⟩
      obtain ⟨sz, hsz3⟩ : ∃ sz, (segB s2).length = sz := ⟨_, rfl⟩
      have HCL := Lib.hid (fun (w' : World) (A Y : List Asn) (h' : St W w' (A ++ (lgM p dp (H ++ [(s2, Value.slice A1 l c1)]) (sureOf s2 0) g off c ++ Y))) => lgM.all A h' hE)
      have HEN := Lib.hid (fun (w' : World) (A Y : List Asn) (h' : St W w' (A ++ (lgM p dp (H ++ [(s2, Value.slice A1 l c1)]) (sureOf s2 0) g off c ++ Y))) => Lend_m (lgM.front A h') hE)
      rw [hl] at hG h
      have HSH := Lib.hid (fun (w' : World) (A Y : List Asn) (h' : St W w' (A ++ (lgM p dp (H ++ [(s2, Value.slice A1 l c1)]) (sureOf s2 0) g off c ++ Y))) => lgM.shutA A hG h')
      have HLS := Lib.hid (fun (w' : World) (A Y : List Asn) (h' : St W w' (A ++ (lgM p dp (H ++ [(s2, Value.slice A1 l c1)]) (sureOf s2 0) g off c ++ Y))) => lgM.lastA A hhn h')
      have HFI := Lib.hid (fun w' (hb : B W w') => file_n (HTT.out.later hb) (n := s2.n) (by have := hsm.1; omega))
      have hfm := fileN_max hsm.1
      have HAP := Lib.hid (fun w' z d' v Y (hc : appendF d1 (fileN s2.n) (frameF b) = (z, d')) (h' : St W w' (aDisk dp d1 :: Y)) (hv : Bs w' v (frameF b)) => show Calls Tryz.prog 30 #[.pointer (some ⟨dp, 0, none⟩), .string (bstr (fileN s2.n)), v] w' fun e w'' => e = .returned (.int .i64 z) ∧ St W w'' (aDisk dp d' :: Y) from by
        have := append_c h' hfm hv (by have := HFL.out; omega)
        rw [hc] at this
        exact this)
      have HAD := Lib.hid (fun (w' : World) (A5 : Option Addr) (c5 : Nat) (Y : List Asn) (h' : St W w' (aPl (.slice A5 (l + 1) c5) (s2.L ++ [b]) :: aOff 67 4 g off (hn + 1) c (segsV (H ++ [(s2, Value.slice A1 l c1)])) :: aBlk p 54 (logC dp (sureOf s2 0) (.slice (some ⟨g, off, none⟩) (hn + 1) c)) :: (plsL H ++ Y))) => lgM.putA hhn hE hsz3 HFLE.out hG h')
      have HAC := Lib.hid (fun (w' : World) (v' : Value) (M : List (List UInt8)) (Y : List Asn) (h' : St W w' (aPl v' M :: aOff 67 4 g off (hn + 1) c (segsV (H ++ [(s2, Value.slice A1 l c1)])) :: Y)) => lgM.addCells hhn hE h')
      have HOL := Lib.hid (fun (w' : World) (A Y : List Asn) (h' : St W w' (A ++ (aPl (.slice A1 l c1) s2.L :: aOff 67 4 g off (hn + 1) c (segsV (H ++ [(s2, Value.slice A1 l c1)])) :: aBlk p 54 (logC dp (sureOf s2 0) (.slice (some ⟨g, off, none⟩) (hn + 1) c)) :: (plsL H ++ Y)))) => lgM.n2A A hhn hE h')
      have HPA := Lib.hid (fun (w' : World) (x : Value) (Y : List Asn) (h' : St W w' (aPl (.slice A1 l c1) s2.L :: aBy x b :: Y)) => (show ∃ A5 c5 w8, (Builtin.append_ #[65, 65] 65 #[.slice A1 l c1, .slice (some ⟨w'.heap.size, 0, none⟩) 1 1]).run Tryz.prog (w'.alloc (.cells #[x] 32)) = .ok (.slice A5 (l + 1) c5) w8 ∧ St W w8 (aPl (.slice A5 (l + 1) c5) (s2.L ++ [b]) :: Y) from by
        have := St.plAppend (ty := 65) h' (by have := HBB.out; unfold big; omega) hl3
        rw [hl] at this
        exact this))
      have HSL := Lib.hid (fun w' A5 c5 z5 => (show Calls Tryz.prog 32 #[.agg #[.int .i64 s2.n, .int .i64 s2.first, .slice A5 (l + 1) c5, .int .i64 z5]] w' fun e w'' => e = .returned (.int .i64 (Sg.put s2 b).last) ∧ B w' w'' from by
        have := segLast_m (s := Sg.put s2 b) w' hsm2 (A := A5) (c' := c5) (sz := z5)
        rw [show (Sg.put s2 b).L.length = l + 1 by simp [Sg.put, hl]] at this
        exact this))
      rw [hsz3] at hsz HCL
      rw [hhn] at HCL
      have HDA := Lib.hid (OnDisk.append hS hD b)
      have HD1 := Lib.hid hD
      have H3 := Lib.hid (lgM.back [_, _] h)
      clear h hS hD hsm hsm2 hE hhn hfm hl hl3
      refine (HEN.out _ [_, _] _ H3.out).mono ?_
      rintro e w5 ⟨rfl, hb⟩
      have H4 := Lib.hid (H3.out.later hb)
      obtain ⟨m0, m1, m2, m3, m4, n0, n1, n2, n3⟩ := HCL.out _ [_, _] _ H4.out
      clear hb
      go_wp2_with fail
      rcases HDA.out with ha | ⟨d2, ha, hD2, hr2⟩
      · have HA := Lib.hid ha
        clear ha
        go_region_held3 (fun w' => w'.cell? ⟨p, 0, none⟩ = some (.pointer (some ⟨dp, 0, none⟩)) ∧ w'.cell? ⟨p, 1, none⟩ = some (.string (bstr nLog)) ∧ w'.cell? ⟨g, E, none⟩ = some (.int .i64 s2.n)) (first | assumption | (refine ⟨?_, ?_, ?_⟩ <;> assumption)) (first
          | (go_at_call 31; (with_reducible refine (HFI.out _ (H4.out.later (Below.refl _ _).drew).b).mono ?_); rintro e w5 ⟨rfl, hb⟩; have H5 := Lib.hid ((H4.out.later (Below.refl _ _).drew).later hb); clear hb m0 m1 m2 m3 m4 n0 n1 n2 n3; obtain ⟨m0, m1, m2, m3, m4, n0, n1, n2, n3⟩ := HCL.out _ [_, _] _ H5.out)
          | (go_at_call 30; (with_reducible refine (HAP.out _ _ _ _ _ HA.out H5.out (H5.out.swap.byBs (by have := HFL.out; unfold big; omega))).mono ?_); rintro e w6 ⟨rfl, h'⟩; have H6 := Lib.hid h'; clear h' m0 m1 m2 m3 m4 n0 n1 n2 n3; obtain ⟨m0, m1, m2, m3, m4, n0, n1, n2, n3⟩ := HCL.out _ [_, _] _ H6.out))
        all_goals
          go_wp2_with fail
          go_ret2
          exact ⟨T2, s2, 0, 30, d1, HGR.out, HRO.out, .inl ⟨by omega, rfl, HD1.out, (HSH.out _ [_, _] _ H6.out).rot3.drop⟩⟩
      · have HA := Lib.hid ha
        have HD2 := Lib.hid (And.intro hD2 hr2)
        clear ha hD2 hr2
        go_region_held3 (fun w' => w'.cell? ⟨p, 0, none⟩ = some (.pointer (some ⟨dp, 0, none⟩)) ∧ w'.cell? ⟨p, 1, none⟩ = some (.string (bstr nLog)) ∧ w'.cell? ⟨g, E, none⟩ = some (.int .i64 s2.n)) (first | assumption | (refine ⟨?_, ?_, ?_⟩ <;> assumption)) (first
          | (go_at_call 31; (with_reducible refine (HFI.out _ (H4.out.later (Below.refl _ _).drew).b).mono ?_); rintro e w5 ⟨rfl, hb⟩; have H5 := Lib.hid ((H4.out.later (Below.refl _ _).drew).later hb); clear hb m0 m1 m2 m3 m4 n0 n1 n2 n3; obtain ⟨m0, m1, m2, m3, m4, n0, n1, n2, n3⟩ := HCL.out _ [_, _] _ H5.out)
          | (go_at_call 30; (with_reducible refine (HAP.out _ _ _ _ _ HA.out H5.out (H5.out.swap.byBs (by have := HFL.out; unfold big; omega))).mono ?_); rintro e w6 ⟨rfl, h'⟩; have H6 := Lib.hid h'; clear h' m0 m1 m2 m3 m4 n0 n1 n2 n3; obtain ⟨m0, m1, m2, m3, m4, n0, n1, n2, n3⟩ := HCL.out _ [_, _] _ H6.out))
        all_goals
          go_wp2_with (first
            | (at_builtin; refine wpList_append_run rfl (.tmp 77) (.tmp 79) 65 rfl rfl rfl hrun ?_)
            | (go_at_call 32; (with_reducible refine (HSL.out _ _ _ _).mono ?_); rintro e w9 ⟨rfl, hb⟩; have H10 := Lib.hid (H9.out.later hb); clear hb)
            | ((with_reducible refine wpList_copy_B (u := Value.slice Au bl cu) rfl (.tmp 70) (.tmp 71) rfl rfl rfl HBL.out (HLS.out _ [_, _] _ H6.out) (HU.out.later H6.out.b) ?_); intro w7 hS; obtain ⟨A5, c5, w8, hrun, hS8⟩ := HPA.out _ _ _ hS.swap; have H9 := Lib.hid (HAD.out _ _ _ _ hS8); have l7 := HOL.out _ [_] _ hS; obtain ⟨a80, a81, a82, a83, f82, f83⟩ := HAC.out _ _ _ _ hS8; rw [hsz3] at a83; clear hS hS8 m0 m1 m2 m3 m4 n0 n1 n2 n3))
          go_ret2
          exact ⟨T2, s2, 0, 0, d2, HGR.out, by rw [HD2.out.2]; exact HRO.out, .inr ⟨rfl, rfl, HBB.out, HD2.out.1, H10.out.rot3.drop⟩⟩
end
end Go.Proofs.YtoikjgcggmemaaaGreatDoor

/- Prune over several segments. -/
namespace Go.Proofs.YtoikjgcggmemaaaGreatDoor
open Go.RowKit Go.Deep Go.Maps
set_option linter.unusedVariables false

def lenC : Option Value → Nat
  | some (.slice _ n _) => n
  | _ => 0
section
variable {W w : World} {p dp g off c : Nat} {H G : List (Sg × Value)} {T : List Sg} {sure : Int} {X : List Asn} {x : Sg × Value} {s : Sg} {v u : Value} {b : List UInt8} {N k : Nat} {d : Dk}
theorem Segs.front {T1 : List Sg} : ∀ {T0 : List Sg}, Segs (T0 ++ T1) s N → Segs T1 s N
  | [], h => h
  | t :: T0, h => Segs.front (T0 := T0) h.tail
theorem Segs.small0 {t : Sg} (h : Segs (t :: T) s N) (hN : N ≤ 9007199254740992) : t.small := by
  obtain ⟨_, _, h1, h2⟩ := h.one t (by simp)
  exact ⟨by omega, by omega⟩
set_option maxRecDepth 20000 in
set_option maxHeartbeats 8000000 in
theorem Lprune_m (hT : TabW W) (hS : Segs T s N) (hN : N ≤ 1099511627776) (hD : OnDisk T s k d) {upto : Int} (hup : upto ≤ s.last) (h : St W w (aLgs p dp (T ++ [s]) sure :: aDisk dp d :: X)) :
    Calls Tryz.prog 11 #[.pointer (some ⟨p, 0, none⟩), .int .i64 upto] w fun e w' => ∃ (T0 T1 : List Sg) (d' : Dk), T = T0 ++ T1 ∧ e = .returned (.int .i64 0) ∧ OnDisk T1 s k d' ∧ d'.room = d.room ∧ St W w' (aLgs p dp (T1 ++ [s]) sure :: aDisk dp d' :: X) := by
  obtain ⟨G, g, off, c, hG, h⟩ := aLgs.open_ h
  obtain ⟨H, v, rfl, hH⟩ := map_snoc hG
  have hsm := hS.small (N := N) (by omega)
  have HN := Lib.hid (Lnone_m h)
  have HLA := Lib.hid (fun (w' : World) (Y : List Asn) (h' : St W w' (lgM p dp (H ++ [(s, v)]) sure g off c ++ Y)) => LLast_m h' hsm)
  have H0 := Lib.hid h
  have HSG := Lib.hid hS
  have HDD := Lib.hid hD
  have HTT := Lib.hid hT
  have HHH := Lib.hid hH
  obtain ⟨z, hz⟩ : ∃ z, s.last = z := ⟨_, rfl⟩
  rw [hz] at HLA hup
  have hup2 : ¬ z < upto := by omega
  clear h hS hD hT hG hH hsm hz
  go_enter Tryz.func11, Tryz.ntmps11
  go_wp2_with (first
    | (go_at_call 27; (with_reducible refine HN.out.mono ?_); rintro e w1 ⟨rfl, rfl⟩)
    | (go_at_call 13; (with_reducible refine (HLA.out _ _ H0.out).mono ?_); rintro e w2 ⟨rfl, hb⟩; have H2 := Lib.hid (H0.out.later hb); clear hb))
  go_loopw [] (fun wr => ∃ (T0 T1 : List Sg) (H1 : List (Sg × Value)) (o1 c1 : Nat) (d1 : Dk), Hid (T = T0 ++ T1 ∧ H1.map Prod.fst = T1 ∧ OnDisk T1 s k d1 ∧ d1.room = d.room) ∧ Hid (St W wr (lgM p dp (H1 ++ [(s, v)]) sure g o1 c1 ++ (aDisk dp d1 :: X)))) (fun wr => lenC (wr.cell? ⟨p, 3, none⟩))
  case atStart => exact ⟨[], T, H, off, c, d, ⟨rfl, HHH.out, HDD.out, rfl⟩, H2.out⟩
  case round =>
    obtain ⟨T0, T1, H1, o1, c1, d1, HF, HS⟩ := hrel
    clear H0 H2 HN HLA
    obtain ⟨m0, m1, m2, m3, m4, n0, n1, n2, n3⟩ := lgM.all [] HS.out rfl
    have hlen := (lgM.len HS.out).1
    have hc63 := (lgM.len HS.out).2
    rw [List.length_append, List.length_singleton] at hlen
    clear n0 n1 n2 n3
    cases H1 with
    | nil =>
      simp only [List.length_nil, Nat.zero_add] at m3
      go_wp2_with fail
      go_ret
      obtain ⟨hf1, hf2, hf3, hf4⟩ := HF.out
      subst hf2
      exact ⟨T0, [], d1, hf1, rfl, hf3, hf4, aLgs.shut (G := [(s, v)]) rfl HS.out⟩
    | cons y H2 =>
      obtain ⟨t, v0⟩ := y
      obtain ⟨c0, k1, k2, k3⟩ := lgM.seg HS.out (i := 0) (x := (t, v0)) rfl
      simp only [Nat.mul_zero, Nat.add_zero] at c0 k1 k2 k3
      obtain ⟨A0, cc, hv⟩ := lgM.slice HS.out (i := 0) (x := (t, v0)) rfl
      simp only at hv
      subst hv
      obtain ⟨hf1, hf2, hf3, hf4⟩ := HF.out
      simp only [List.map_cons] at hf2
      subst hf2
      have hS1 : Segs (t :: H2.map Prod.fst) s N := Segs.front (T0 := T0) (by rw [← hf1]; exact HSG.out)
      have hts := hS1.small0 (by omega)
      obtain ⟨d2, hr, hD2, hr2⟩ := OnDisk.prune hS1 hf3
      have HSL := Lib.hid (fun w' => segLast_m w' hts (A := A0) (c' := cc) (sz := ((segB t).length : Int)))
      have HFI := Lib.hid (fun w' (hb : B W w') => file_n (HTT.out.later hb) (n := t.n) (by have := hts.1; omega))
      have hfm := fileN_max hts.1
      have HRM := Lib.hid (fun (w' : World) (Y : List Asn) (h' : St W w' (aDisk dp d1 :: Y)) => show Calls Tryz.prog 34 #[.pointer (some ⟨dp, 0, none⟩), .string (bstr (fileN t.n))] w' fun e w'' => e = .returned (.int .i64 0) ∧ St W w'' (aDisk dp d2 :: Y) from by
        have := remove_c h' hfm
        rw [hr] at this
        exact this)
      have HCL := Lib.hid (fun (w' : World) (A Y : List Asn) (h' : St W w' (A ++ (lgM p dp ((t, Value.slice A0 t.L.length cc) :: (H2 ++ [(s, v)])) sure g o1 c1 ++ Y))) => show w'.cell? ⟨p, 0, none⟩ = some (.pointer (some ⟨dp, 0, none⟩)) ∧ w'.cell? ⟨p, 1, none⟩ = some (.string (bstr nLog)) ∧ w'.cell? ⟨p, 3, none⟩ = some (.slice (some ⟨g, o1, none⟩) (H2.length + 1 + 1) c1) ∧ w'.cell? ⟨g, o1, none⟩ = some (.int .i64 t.n) ∧ w'.frozen? ⟨p, 3, none⟩ = false from by
        have h1 := lgM.front A h'
        obtain ⟨q0, q1, q2, q3, q4⟩ := lgM.cells h1
        obtain ⟨r0, _, _, _⟩ := lgM.seg h1 (i := 0) (x := (t, Value.slice A0 t.L.length cc)) rfl
        rw [show ((t, Value.slice A0 t.L.length cc) :: (H2 ++ [(s, v)])).length = H2.length + 1 + 1 by simp] at q3
        exact ⟨q0, q1, q3, r0, (aBlk.get h1).frozen 3⟩)
      have H1 := Lib.hid (show St W wr (lgM p dp ((t, Value.slice A0 t.L.length cc) :: (H2 ++ [(s, v)])) sure g o1 c1 ++ (aDisk dp d1 :: X)) from HS.out)
      have HCUT := Lib.hid (fun (w' : World) (h' : St W w' (aDisk dp d2 :: (lgM p dp ((t, Value.slice A0 t.L.length cc) :: (H2 ++ [(s, v)])) sure g o1 c1 ++ X))) => (show St W (w'.setCell ⟨p, 3, none⟩ (.slice (some ⟨g, o1 + 4, none⟩) (H2.length + 1) (c1 - 1))) (lgM p dp (H2 ++ [(s, v)]) sure g (o1 + 4) (c1 - 1) ++ (aDisk dp d2 :: X)) from by
        have := lgM.cut (lgM.front [_] h')
        rw [show (H2 ++ [(s, v)]).length = H2.length + 1 by simp] at this
        exact this))
      have HSHUT := Lib.hid (show St W wr (aLgs p dp (t :: H2.map Prod.fst ++ [s]) sure :: aDisk dp d1 :: X) from aLgs.shut (by simp) HS.out)
      have HD2 := Lib.hid (And.intro hf1 (And.intro hD2 (hr2.trans hf4)))
      have HD1 := Lib.hid (And.intro hf3 hf4)
      simp only [List.length_cons] at m3 hlen
      obtain ⟨hn, hhn⟩ : ∃ hn, H2.length = hn := ⟨_, rfl⟩
      have HHN := Lib.hid hhn
      rw [hhn] at m3 hlen HCL HCUT
      obtain ⟨nn, hnn⟩ : ∃ nn, hn + 1 + 1 = nn := ⟨_, rfl⟩
      rw [show hn + 1 = nn - 1 by omega] at HCUT
      rw [hnn] at m3 hlen HCL
      have HNN := Lib.hid hnn
      obtain ⟨lt, hlt⟩ : ∃ lt, t.last = lt := ⟨_, rfl⟩
      rw [hlt] at HSL
      have M3 := Lib.hid m3
      have hc1 : ¬ c1 = 1 := by omega
      have hc0 : (1 : Int) < (nn : Int) := by omega
      have hc5 : (0 : Int) < (nn : Int) := by omega
      have hc6 : 0 < nn := by omega
      have hc7 : 1 < nn := by omega
      have hc8 : (0 : Int) ≤ (nn : Int) := by omega
      have hcb : nn ≤ 9223372036854775807 := by unfold maxLen at hc63; omega
      clear hf1 hf3 hf4 hS1 hts hr hD2 hr2 HF HSG HDD HTT hhn hlt hfm hnn
      by_cases hle : lt ≤ upto
      · go_wp2_with (first
          | (go_at_call 32; (with_reducible refine (HSL.out _).mono ?_); rintro e w3 ⟨rfl, hb⟩; have H3 := Lib.hid ((H1.out.later hb).deep); clear hb m0 m1 m2 m3 m4 c0 k1 k2 k3; obtain ⟨m0, m1, m3, c0, f3⟩ := HCL.out _ [_] _ H3.out))
        go_region_held3 (fun w' => w'.cell? ⟨p, 0, none⟩ = some (.pointer (some ⟨dp, 0, none⟩)) ∧ w'.cell? ⟨p, 1, none⟩ = some (.string (bstr nLog)) ∧ w'.cell? ⟨p, 3, none⟩ = some (.slice (some ⟨g, o1, none⟩) nn c1) ∧ w'.cell? ⟨g, o1, none⟩ = some (.int .i64 t.n)) (first | assumption | (refine ⟨?_, ?_, ?_, ?_⟩ <;> assumption)) (first
          | (go_at_call 31; (with_reducible refine (HFI.out _ (H3.out.later (Below.refl _ _).drew).b).mono ?_); rintro e w4 ⟨rfl, hb⟩; have H4 := Lib.hid ((H3.out.later (Below.refl _ _).drew).later hb); clear hb m0 m1 m3 c0 f3; obtain ⟨m0, m1, m3, c0, f3⟩ := HCL.out _ [_] _ H4.out)
          | (go_at_call 34; (with_reducible refine (HRM.out _ _ H4.out).mono ?_); rintro e w5 ⟨rfl, h'⟩; have H5 := Lib.hid h'; clear h' m0 m1 m3 c0 f3; obtain ⟨m0, m1, m3, c0, f3⟩ := HCL.out _ [_] _ H5.out))
        all_goals
          go_wp2_with fail
          go_roundw
          case rel => exact ⟨T0 ++ [t], _, H2, o1 + 4, c1 - 1, d2, ⟨by rw [HD2.out.1]; simp, rfl, HD2.out.2.1, HD2.out.2.2⟩, HCUT.out _ H5.out⟩
          case measure =>
            have h1 := (lgM.cells (HCUT.out _ H5.out)).2.2.2.1
            rw [M3.out]
            show lenC (World.cell? _ ⟨p, 3, none⟩) < _
            rw [h1]
            simp only [lenC, List.length_append, List.length_singleton, HHN.out]
            have := HNN.out
            omega
      · go_wp2_with (first
          | (go_at_call 32; (with_reducible refine (HSL.out _).mono ?_); rintro e w3 ⟨rfl, hb⟩; have H3 := Lib.hid (HSHUT.out.later hb); clear hb m0 m1 m2 m3 m4 c0 k1 k2 k3))
        go_ret
        exact ⟨T0, _, d1, HD2.out.1, rfl, HD1.out.1, HD1.out.2, H3.out⟩
end
end Go.Proofs.YtoikjgcggmemaaaGreatDoor

/- Get and All over several segments. -/
namespace Go.Proofs.YtoikjgcggmemaaaGreatDoor
open Go.RowKit Go.Deep Go.Maps
set_option linter.unusedVariables false
attribute [local go_sem ↓] Go.wp_at_zero Go.wp_at_succ

section
variable {W w : World} {p dp g off c : Nat} {H G : List (Sg × Value)} {T : List Sg} {sure : Int} {X : List Asn} {x : Sg × Value} {s : Sg} {v u : Value} {b : List UInt8} {N k : Nat} {d : Dk}
theorem none_s (h : St W w (aLgs p dp (T ++ [s]) sure :: X)) : Calls Tryz.prog 27 #[.pointer (some ⟨p, 0, none⟩)] w fun e w' => e = .returned (.bool false) ∧ w = w' := by
  obtain ⟨G, g, off, c, hG, h⟩ := aLgs.open_ h
  obtain ⟨H, v, rfl, _⟩ := map_snoc hG
  exact Lnone_m h
theorem last_s (hS : Segs T s N) (hN : N ≤ 1099511627776) (h : St W w (aLgs p dp (T ++ [s]) sure :: X)) : Calls Tryz.prog 13 #[.pointer (some ⟨p, 0, none⟩)] w fun e w' => e = .returned (.int .i64 s.last) ∧ B w w' := by
  obtain ⟨G, g, off, c, hG, h⟩ := aLgs.open_ h
  obtain ⟨H, v, rfl, _⟩ := map_snoc hG
  exact LLast_m h (hS.small (by omega))
theorem synced_s (h : St W w (aLgs p dp (T ++ [s]) sure :: X)) : Calls Tryz.prog 12 #[.pointer (some ⟨p, 0, none⟩)] w fun e w' => e = .returned (.int .i64 sure) ∧ w = w' := by
  obtain ⟨G, g, off, c, hG, h⟩ := aLgs.open_ h
  obtain ⟨H, v, rfl, _⟩ := map_snoc hG
  exact LSynced_m h
theorem first_s (h : St W w (aLgs p dp (T ++ [s]) sure :: X)) : Calls Tryz.prog 14 #[.pointer (some ⟨p, 0, none⟩)] w fun e w' => e = .returned (.int .i64 (first0 T s : Int)) ∧ w = w' := by
  obtain ⟨G, g, off, c, hG, h⟩ := aLgs.open_ h
  obtain ⟨H, v, rfl, _⟩ := map_snoc hG
  obtain ⟨y, hy⟩ : ∃ y, (H ++ [(s, v)])[0]? = some y := ⟨_, List.getElem?_eq_getElem (by simp)⟩
  have e : first0 T s = y.1.first := by
    unfold first0
    rw [← hG, List.head?_eq_getElem?, List.getElem?_map, hy]
    rfl
  rw [e]
  exact LFirst_m h hy
theorem Segs.find : ∀ {T : List Sg} {i : Nat}, Segs T s N → (recs T s)[i]? = some b → ∃ (j : Nat) (a : Sg) (i' : Nat), (T ++ [s])[j]? = some a ∧ a.L[i']? = some b ∧ first0 T s + i = a.first + i' ∧ ∀ (j' : Nat) (a' : Sg), j' < j → (T ++ [s])[j']? = some a' → a'.first + a'.L.length ≤ a.first
  | [], i, hS, hi => ⟨0, s, i, rfl, by simpa [recs] using hi, by rw [first_one], fun j' a' h => by omega⟩
  | t :: T, i, hS, hi => by
    rw [recs_cons] at hi
    rw [first_cons]
    by_cases hlt : i < t.L.length
    · rw [List.getElem?_append_left hlt] at hi
      exact ⟨0, t, i, rfl, hi, rfl, fun j' a' h => by omega⟩
    · rw [List.getElem?_append_right (by omega)] at hi
      obtain ⟨j, a, i', h1, h2, h3, h4⟩ := Segs.find hS.tail hi
      have hf := hS.prune_first
      refine ⟨j + 1, a, i', by simpa using h1, h2, by omega, fun j' a' hj ha => ?_⟩
      cases j' with
      | zero =>
        simp at ha
        subst ha
        have hp := hS.step
        rw [List.cons_append, List.pairwise_cons] at hp
        exact (hp.1 a (List.mem_of_getElem? h1)).2
      | succ j' => exact h4 j' a' (by omega) (by simpa using ha)
theorem Segs.one_small {a : Sg} (h : Segs T s N) (hN : N ≤ 9007199254740992) (ha : a ∈ T ++ [s]) : a.small := by
  obtain ⟨_, _, h1, h2⟩ := h.one a ha
  exact ⟨by omega, by omega⟩
theorem Segs.cnt (h : Segs T s N) : (recs T s).length + 1 ≤ N ∧ s.last = (first0 T s : Int) + (recs T s).length - 1 ∧ 1 ≤ first0 T s ∧ first0 T s + (recs T s).length ≤ N := by
  have h1 := h.count
  have h2 := (h.one s (by simp)).2.2.2
  have h3 : 1 ≤ first0 T s := by
    cases T with
    | nil => rw [first_one]; exact (h.one s (by simp)).2.1
    | cons t T => rw [first_cons]; exact (h.one t (by simp)).2.1
  unfold Sg.last
  exact ⟨by omega, by omega, h3, by omega⟩
theorem recs_big (h : Segs T s N) (j : Nat) (b : List UInt8) (hj : (recs T s)[j]? = some b) : b.length ≤ big := by
  obtain ⟨_, a, _, h1, h2, _⟩ := h.find hj
  have := h.len a (List.mem_of_getElem? h1) b (List.mem_of_getElem? h2)
  unfold big; omega
/-- a segment's cells, as the walk names them -/
theorem lgM.segQ (h : St W w (lgM p dp G sure g off c ++ X)) {q : Nat} (hi : G[q]? = some x) : w.cell? ⟨g, off + q * 4, none⟩ = some (.int .i64 x.1.n) ∧ w.cell? ⟨g, off + q * 4 + 1, none⟩ = some (.int .i64 x.1.first) ∧ w.cell? ⟨g, off + q * 4 + 2, none⟩ = some x.2 ∧ w.cell? ⟨g, off + q * 4 + 3, none⟩ = some (.int .i64 (segB x.1).length) := by
  rw [Nat.mul_comm]
  exact lgM.seg h hi
set_option maxRecDepth 20000 in
set_option maxHeartbeats 8000000 in
theorem LGet_m (hS : Segs T s N) (hN : N ≤ 1099511627776) {i : Nat} (hi : (recs T s)[i]? = some b) (h : St W w (aLgs p dp (T ++ [s]) sure :: X)) :
    Calls Tryz.prog 25 #[.pointer (some ⟨p, 0, none⟩), .int .i64 ((first0 T s : Int) + (i : Int))] w fun e w' => ∃ v, e = .returned (.tuple #[v, .int .i64 0]) ∧ St W w' (aBy v b :: aLgs p dp (T ++ [s]) sure :: X) := by
  have H0 := Lib.hid h
  obtain ⟨G, g, off, c, hG, h⟩ := aLgs.open_ h
  obtain ⟨j, a, i', hj, ha, he, hlow⟩ := hS.find hi
  obtain ⟨va, hva⟩ := map_at hG hj
  obtain ⟨Y1, hY1⟩ := lgM.rec1 h hva
  obtain ⟨gl, cL, u, hvs, ku, hub⟩ := aPl.at hY1 ha
  simp only at hvs ku
  subst hvs
  have hil : i' < a.L.length := lt_of ha
  have HUB := Lib.hid hub
  obtain ⟨n, hn⟩ : ∃ n : Int, (first0 T s : Int) + (i : Int) = n := ⟨_, rfl⟩
  rw [hn]
  have hna : n = (a.first : Int) + (i' : Int) := by omega
  have hjl : j < G.length := lt_of hva
  have HPL := Lib.hid (fun (q : Nat) (y : Sg × Value) (hq : q < j) (hy : G[q]? = some y) => show (y.1.first : Int) + (y.1.L.length : Int) ≤ n from by
    have := hlow q y.1 hq (by rw [← hG, List.getElem?_map, hy]; rfl)
    omega)
  have HSM := Lib.hid (fun (q : Nat) (y : Sg × Value) (hy : G[q]? = some y) => (hS.one_small (by omega) (by rw [← hG]; exact List.mem_map.2 ⟨y, List.mem_of_getElem? hy, rfl⟩) : y.1.small))
  have HN := Lib.hid (show Calls Tryz.prog 27 #[.pointer (some ⟨p, 0, none⟩)] w fun e w' => e = .returned (.bool false) ∧ w = w' from by
    obtain ⟨H, v, rfl, _⟩ := map_snoc hG
    exact Lnone_m h)
  obtain ⟨_, _, _, m3, _⟩ := lgM.cells h
  have H1 := Lib.hid h
  have HVA := Lib.hid hva
  obtain ⟨gn, hgn⟩ : ∃ gn, G.length = gn := ⟨_, rfl⟩
  have HGN := Lib.hid hgn
  rw [hgn] at m3 hjl
  have hg63 := (lgM.len h).2
  have hgc := (lgM.len h).1
  rw [hgn] at hgc
  have hg9 : gn ≤ 9223372036854775807 := by unfold maxLen at hg63; omega
  have HNA := Lib.hid hna
  clear h hS hG hj ha he hlow hva hY1 hub hn hgn hi hg63 hna
  go_enter Tryz.func25, Tryz.ntmps25
  go_wp2_with (first
    | (go_at_call 27; (with_reducible refine HN.out.mono ?_); rintro e w1 ⟨rfl, rfl⟩))
  go_loopw [15] (fun i wr => ∃ q : Nat, i = .int .i64 (q : Int) ∧ q ≤ j ∧ Hid (B w wr)) (fun i _ => gn - (intOf i).toNat)
  case atStart => exact ⟨0, rfl, Nat.zero_le _, Below.refl _ _⟩
  case round =>
    obtain ⟨q, rfl, hq, HB⟩ := hrel
    have hqg : (q : Int) < (gn : Int) := by omega
    by_cases hqj : q < j
    · obtain ⟨y, hy⟩ : ∃ y, G[q]? = some y := ⟨_, List.getElem?_eq_getElem (by have := HGN.out; omega)⟩
      obtain ⟨y1, y2⟩ := y
      obtain ⟨Ay, cy, hv⟩ := lgM.slice H1.out hy
      simp only at hv
      subst hv
      have hpl := HPL.out q _ hqj hy
      have hsm := HSM.out q _ hy
      obtain ⟨k0, k1, k2, k3⟩ := lgM.segQ (H1.out.later HB.out) hy
      simp only at k0 k1 k2 k3 hpl hsm
      have HSL := Lib.hid (fun w' => segLast_m w' hsm (A := Ay) (c' := cy) (sz := ((segB y1).length : Int)))
      have hz1 : y1.last = (y1.first : Int) + (y1.L.length : Int) - 1 := rfl
      generalize y1.last = z at *
      have hz2 : ¬ n ≤ z := by omega
      have hz3 : (y1.first : Int) ≤ n := by omega
      have HAB := Lib.hid (show B w (wr.alloc (.cells #[.int .i64 y1.n, .int .i64 y1.first, .slice Ay y1.L.length cy, .int .i64 (segB y1).length] 67)) from HB.out.trans (B.alloc' _ _))
      clear hy hpl hsm hz1
      go_wp2_with (first
        | (go_at_call 32; (with_reducible refine (HSL.out _).mono ?_); rintro e w2 ⟨rfl, hb⟩; have HB2 := Lib.hid (HAB.out.trans hb); clear hb))
      go_roundw
      case rel => exact ⟨q + 1, by go_num, by omega, HB2.out⟩
      case measure => simp [intOf]; omega
    · obtain rfl : q = j := by omega
      have hsm := HSM.out q _ HVA.out
      obtain ⟨k0, k1, k2, k3⟩ := lgM.segQ (H1.out.later HB.out) HVA.out
      simp only at k0 k1 k2 k3 hsm
      have ku1 := HB.out.cell ku
      have HSL := Lib.hid (fun w' => segLast_m w' hsm (A := some ⟨gl, 0, none⟩) (c' := cL) (sz := ((segB a).length : Int)))
      have hsm2 := hsm.2
      have hz1 : a.last = (a.first : Int) + (a.L.length : Int) - 1 := rfl
      generalize a.last = z at *
      obtain ⟨al, hal⟩ : ∃ al, a.L.length = al := ⟨_, rfl⟩
      rw [hal] at HSL hil hz1 k2 hsm2
      obtain ⟨f, hf⟩ : ∃ f : Nat, a.first = f := ⟨_, rfl⟩
      have hna := HNA.out
      rw [hf] at HSL hz1 k1 hna hsm2
      obtain ⟨an, han⟩ : ∃ an : Int, (a.n : Int) = an := ⟨_, rfl⟩
      rw [han] at HSL k0
      obtain ⟨sz, hsz⟩ : ∃ sz : Int, ((segB a).length : Int) = sz := ⟨_, rfl⟩
      rw [hsz] at HSL k3
      have q1 : (f : Int) ≤ n := by omega
      have q2 : n ≤ z := by omega
      have q3 : n - (f : Int) = (i' : Int) := by omega
      have q4 : (i' : Int) < (al : Int) := by omega
      have q5 : wrap64 (i' : Int) = (i' : Int) := by unfold wrap64; omega
      have hAB : B wr (wr.alloc (.cells #[.int .i64 an, .int .i64 f, .slice (some ⟨gl, 0, none⟩) al cL, .int .i64 sz] 67)) := B.alloc' _ _
      have HAB := Lib.hid hAB
      have ku2 := hAB.cell ku1
      clear hal hf han hsz hAB hsm hna
      go_wp2_with (first
        | (go_at_call 32; (with_reducible refine (HSL.out _).mono ?_); rintro e w2 ⟨rfl, hb⟩; have HB2 := Lib.hid (HB.out.trans (HAB.out.trans hb)); have ku3 := hb.cell ku2; have x1 := hb.cell ((Blk.new wr 67 #[.int .i64 an, .int .i64 f, .slice (some ⟨gl, 0, none⟩) al cL, .int .i64 sz]).cell 1); have x2 := hb.cell ((Blk.new wr 67 #[.int .i64 an, .int .i64 f, .slice (some ⟨gl, 0, none⟩) al cL, .int .i64 sz]).cell 2); simp at x1 x2; clear hb)
        | (go_at_call 40; (with_reducible refine (clone89 (HUB.out.later HB2.out)).mono ?_); rintro e w3 ⟨v3, rfl, r3, hb3⟩; have H3 := Lib.hid ((H0.out.later HB2.out).addRow hb3 r3); clear r3 hb3))
      go_ret2
      exact ⟨_, rfl, H3.out⟩
end
end Go.Proofs.YtoikjgcggmemaaaGreatDoor

/- All over several segments. -/
namespace Go.Proofs.YtoikjgcggmemaaaGreatDoor
open Go.RowKit Go.Deep Go.Maps
set_option linter.unusedVariables false
attribute [local go_sem ↓] Go.wp_at_zero Go.wp_at_succ

section
variable {W w : World} {p dp g off c : Nat} {H G : List (Sg × Value)} {T : List Sg} {sure : Int} {X : List Asn} {x : Sg × Value} {s : Sg} {v u : Value} {b : List UInt8} {N k : Nat} {d : Dk}
set_option maxRecDepth 20000 in
set_option maxHeartbeats 8000000 in
theorem Lall_g {Ob : Asn} {R : List (List UInt8)} {f : Int} (hE : R.length ≤ 1099511627776 ∧ 0 ≤ f ∧ f ≤ 9007199254740992) (hbig0 : ∀ (j : Nat) b, R[j]? = some b → b.length ≤ big)
    (hN : ∀ (w' : World) (Y : List Asn), St W w' (Ob :: Y) → Calls Tryz.prog 27 #[.pointer (some ⟨p, 0, none⟩)] w' fun e w'' => e = .returned (.bool false) ∧ w' = w'')
    (hF : ∀ (w' : World) (Y : List Asn), St W w' (Ob :: Y) → Calls Tryz.prog 14 #[.pointer (some ⟨p, 0, none⟩)] w' fun e w'' => e = .returned (.int .i64 f) ∧ B w' w'')
    (hL : ∀ (w' : World) (Y : List Asn), St W w' (Ob :: Y) → Calls Tryz.prog 13 #[.pointer (some ⟨p, 0, none⟩)] w' fun e w'' => e = .returned (.int .i64 (f + (R.length : Int) - 1)) ∧ B w' w'')
    (hG : ∀ (w' : World) (Y : List Asn) (i : Nat) (b : List UInt8), R[i]? = some b → St W w' (Ob :: Y) → Calls Tryz.prog 25 #[.pointer (some ⟨p, 0, none⟩), .int .i64 (f + (i : Int))] w' fun e w'' => ∃ v, e = .returned (.tuple #[v, .int .i64 0]) ∧ St W w'' (aBy v b :: Ob :: Y))
    (h : St W w (Ob :: X)) : Calls Tryz.prog 18 #[.pointer (some ⟨p, 0, none⟩)] w fun e w' => ∃ b1 b2 A1 A2 c1 c2, e = .returned (.func (.func 39) #[] #[.pointer (some ⟨b1, 0, none⟩), .pointer (some ⟨b2, 0, none⟩)]) ∧ St W w' (Ob :: X) ∧ Its w' b1 b2 A1 A2 c1 c2 f R := by
  have h2 := aBlk.new (aBlk.new h 77 #[.slice none 0 0]) 65 #[.slice none 0 0]
  rw [World.size_alloc] at h2
  have H2 := Lib.hid (aPl.nil (h2.rowNil 2 1))
  have HN := Lib.hid hN
  have HF := Lib.hid hF
  have HL := Lib.hid hL
  have HG := Lib.hid hG
  have HE := Lib.hid hE
  have HBG := Lib.hid hbig0
  clear h h2 hE hN hF hL hG hbig0
  go_enter Tryz.func18, Tryz.ntmps18
  go_wp2_with (first
    | (go_at_call 27; (with_reducible refine (HN.out _ _ H2.out.rot5).mono ?_); rintro e w1 ⟨rfl, rfl⟩)
    | (go_at_call 14; (with_reducible refine (HF.out _ _ H2.out.rot5).mono ?_); rintro e w2 ⟨rfl, hb⟩; have H3 := Lib.hid (H2.out.later hb); clear hb))
  obtain ⟨b1, hb1⟩ : ∃ b1, w.heap.size = b1 := ⟨_, rfl⟩
  obtain ⟨b2, hb2⟩ : ∃ b2, b1 + 1 = b2 := ⟨_, rfl⟩
  rw [hb1, hb2] at H3
  rw [hb1, hb2]
  have hne : ¬ b1 = b2 := by omega
  obtain ⟨h1, h2, h3⟩ := HE.out
  obtain ⟨l, hl⟩ : ∃ l, R.length = l := ⟨_, rfl⟩
  have HLL := Lib.hid hl
  rw [hl] at HL h1
  clear hb1 hb2 hl H2
  go_loopw [5] (fun i wr => ∃ (j : Nat) (vA vO : Value), j ≤ l ∧ i = .int .i64 (f + (j : Int)) ∧ Hid (St W wr (Ob :: aPl vO (R.take j) :: aRow 2 1 vA j (numsC f j) :: aBlk b2 65 #[vO] :: aBlk b1 77 #[vA] :: X))) (fun i _ => (f + (l : Int) - intOf i).toNat)
  case atStart => exact ⟨0, _, _, Nat.zero_le _, by simp, H3.out.rot5⟩
  case round =>
    obtain ⟨j, vA, vO, hj, rfl, HS⟩ := hrel
    by_cases hjl : j < l
    · obtain ⟨b, hbj⟩ : ∃ b, R[j]? = some b := ⟨_, List.getElem?_eq_getElem (by have := HLL.out; omega)⟩
      have HBJ := Lib.hid hbj
      have q1 : f + (j : Int) ≤ f + (l : Int) - 1 := by omega
      have hbig : b.length ≤ big := HBG.out j b hbj
      have HBB := Lib.hid hbig
      clear hbj hbig
      go_wp2_with (first
        | (go_at_call 13; (with_reducible refine (HL.out _ _ HS.out).mono ?_); rintro e w3 ⟨rfl, hb⟩; have H4 := Lib.hid (HS.out.later hb); clear hb)
        | (go_at_call 25; (with_reducible refine (HG.out _ _ _ _ HBJ.out H4.out).mono ?_); rintro e w4 ⟨vb, rfl, hS⟩; obtain ⟨Ab, cb, rfl⟩ := hS.bySlice; have H5 := Lib.hid hS; clear hS))
      have z41 := (aBlk.get H5.out.rot6).lt
      have z42 := (aBlk.get H5.out.rot5).lt
      have k1 := (aBlk.get H5.out.rot6).cell 0
      have k2 := (aBlk.get H5.out.rot5).cell 0
      simp only [List.getElem?_toArray, List.getElem?_cons_zero] at k1 k2
      have o1 : ∀ x ∈ [Value.int .i64 (f + (j : Int))], x.oneCell' = true := by simp [Value.oneCell']
      have g1 : j + 1 ≤ maxLen := by unfold maxLen; omega
      have g2 : (j + 1) * 8 ≤ 140737488355328 := by omega
      have HA0 := Lib.hid H5.out.rot4
      have hb1 := (aBlk.new (HA0.out.later (B.alloc' w4 (.cells #[.int .i64 (f + (j : Int))] 2))) 32 #[.slice Ab b.length cb]).swap.later (Below.refl _ _).drew
      rw [World.size_alloc] at hb1
      have HB1 := Lib.hid hb1
      have HRB1 := Lib.hid ((Rd.one w4 (.int .i64 (f + (j : Int))) 2).later ((B.alloc' _ (.cells #[.slice Ab b.length cb] 32)).trans (Below.refl _ _).drew))
      have HB2 := Lib.hid ((aBlk.new HA0.out 32 #[.slice Ab b.length cb]).swap.later ((B.alloc' (w4.alloc (.cells #[.slice Ab b.length cb] 32)) (.cells #[.int .i64 (f + (j : Int))] 2)).trans (Below.refl _ _).drew))
      have hrb2 := (Rd.one (w4.alloc (.cells #[.slice Ab b.length cb] 32)) (.int .i64 (f + (j : Int))) 2).later (Below.refl _ _).drew
      rw [World.size_alloc] at hrb2
      have HRB2 := Lib.hid hrb2
      clear hb1 hrb2
      have HA := Lib.hid ((show St W w4.drew _ from H5.out.later (Below.refl _ _).drew).rot4)
      have HLT := Lib.hid (show (R.take j).length = j by rw [List.length_take]; have := HLL.out; omega)
      have hlt2 : (R.take j).length + 1 ≤ 1099511627776 := by have := HLT.out; omega
      have HLT2 := Lib.hid hlt2
      clear hlt2
      have HK := Lib.hid (fun w9 A8 c8 A9 c9 (hS : St W w9 (aPl (.slice A9 (j + 1) c9) (R.take j ++ [b]) :: aRow 2 1 (.slice A8 (j + 1) c8) (j + 1) (numsC f j ++ [.int .i64 (f + (j : Int))]) :: Ob :: aBlk b2 65 #[vO] :: aBlk b1 77 #[vA] :: X)) =>
        show St W ((w9.setCell ⟨b1, 0, none⟩ (.slice A8 (j + 1) c8)).setCell ⟨b2, 0, none⟩ (.slice A9 (j + 1) c9)) (Ob :: aPl (.slice A9 (j + 1) c9) (R.take (j + 1)) :: aRow 2 1 (.slice A8 (j + 1) c8) (j + 1) (numsC f (j + 1)) :: aBlk b2 65 #[.slice A9 (j + 1) c9] :: aBlk b1 77 #[.slice A8 (j + 1) c8] :: X) from by
        have h1 := aBlk.set hS.rot5 0 (.slice A8 (j + 1) c8)
        have h2 := aBlk.set h1.rot5 0 (.slice A9 (j + 1) c9)
        rw [numsC_succ, List.take_succ_eq_append_getElem (lt_of HBJ.out), show R[j]'(lt_of HBJ.out) = b from by
          have := HBJ.out
          rw [List.getElem?_eq_getElem (lt_of HBJ.out)] at this
          exact Option.some.inj this]
        exact h2.rot3.rot4.swap.rot5)
      go_region_law (first
        | (refine step_append_St (by rfl) (.tmp 25) (.tmp 27) 77 (by rfl) Tryz.underlying77 infoI64 rfl Nat.zero_lt_one (by rfl) (by rfl) (HA.out.later (B.alloc' _ _)) (Rd.one _ _ _) o1 g1 g2 ?_; intro A8 c8 w8 hS; have H8 := Lib.hid hS; clear k1 k2; have k1 := (aBlk.get hS.rot6).cell 0; have k2 := (aBlk.get hS.rot5).cell 0; have z1 := (aBlk.get hS.rot6).lt; have z2 := (aBlk.get hS.rot5).lt; simp only [List.getElem?_toArray, List.getElem?_cons_zero] at k1 k2; clear hS)
        | (refine step_append_St (by rfl) (.tmp 25) (.tmp 27) 77 (by rfl) Tryz.underlying77 infoI64 rfl Nat.zero_lt_one (by rfl) (by rfl) HB1.out HRB1.out o1 g1 g2 ?_; intro A8 c8 w8 hS; have H8 := Lib.hid hS; clear k1 k2; have k1 := (aBlk.get hS.swap.drop.rot6).cell 0; have k2 := (aBlk.get hS.swap.drop.rot5).cell 0; have z1 := (aBlk.get hS.swap.drop.rot6).lt; have z2 := (aBlk.get hS.swap.drop.rot5).lt; simp only [List.getElem?_toArray, List.getElem?_cons_zero] at k1 k2; clear hS)
        | (refine step_append_St (by rfl) (.tmp 25) (.tmp 27) 77 (by rfl) Tryz.underlying77 infoI64 rfl Nat.zero_lt_one (by rfl) (by rfl) HB2.out HRB2.out o1 g1 g2 ?_; intro A8 c8 w8 hS; have H8 := Lib.hid hS; clear k1 k2; have k1 := (aBlk.get hS.swap.drop.rot6).cell 0; have k2 := (aBlk.get hS.swap.drop.rot5).cell 0; have z1 := (aBlk.get hS.swap.drop.rot6).lt; have z2 := (aBlk.get hS.swap.drop.rot5).lt; simp only [List.getElem?_toArray, List.getElem?_cons_zero] at k1 k2; clear hS)
        | (obtain ⟨A9, c9, w9, hrun, hS⟩ := St.plAppendRd (ty := 65) (H8.out.later (B.alloc' w8 (.cells #[.slice Ab b.length cb] 32))).rot4.swap2 (Rd.one _ _ _) HBB.out HLT2.out; rw [HLT.out] at hrun hS; refine step_append_run (by rfl) (.tmp 29) (.tmp 31) 65 (by rfl) (by rfl) (by rfl) hrun ?_; have H9 := Lib.hid hS; clear k1 k2; have k1 := (aBlk.get hS.rot5).cell 0; have k2 := (aBlk.get hS.rot4).cell 0; have f1 := (aBlk.get hS.rot5).frozen 0; have f2 := (aBlk.get hS.rot4).frozen 0; simp only [List.getElem?_toArray, List.getElem?_cons_zero] at k1 k2; clear hS hrun)
        | (obtain ⟨A9, c9, w9, hrun, hS⟩ := St.plAppendRd (ty := 65) H8.out.swap.drop.rot4.swap2 (Rd.blk (aBlk.get H8.out.swap)) HBB.out HLT2.out; rw [HLT.out] at hrun hS; refine step_append_run (by rfl) (.tmp 29) (.tmp 31) 65 (by rfl) (by rfl) (by rfl) hrun ?_; have H9 := Lib.hid hS; clear k1 k2; have k1 := (aBlk.get hS.rot5).cell 0; have k2 := (aBlk.get hS.rot4).cell 0; have f1 := (aBlk.get hS.rot5).frozen 0; have f2 := (aBlk.get hS.rot4).frozen 0; simp only [List.getElem?_toArray, List.getElem?_cons_zero] at k1 k2; clear hS hrun))
      all_goals
        go_wp2_with fail
        go_roundw
        case rel => exact ⟨j + 1, _, _, by omega, by rw [show ((j + 1 : Nat) : Int) = (j : Int) + 1 from rfl]; simp [Int.add_assoc], HK.out _ _ _ _ _ H9.out⟩
        case measure => simp [intOf]; omega
    · obtain rfl : j = l := by omega
      have HS2 := Lib.hid HS.out
      have q1 : ¬ f + (j : Int) ≤ f + (j : Int) - 1 := by omega
      clear HS
      go_wp2_with (first
        | (go_at_call 13; (with_reducible refine (HL.out _ _ HS2.out).mono ?_); rintro e w3 ⟨rfl, hb⟩; have H4 := Lib.hid (HS2.out.later hb); clear hb))
      go_ret
      have h4 := H4.out
      rw [List.take_of_length_le (by have := HLL.out; omega)] at h4
      have k1 := (aBlk.get h4.rot5).cell 0
      have k2 := (aBlk.get h4.rot4).cell 0
      simp only [List.getElem?_toArray, List.getElem?_cons_zero] at k1 k2
      have hrow := h4.rot3
      obtain ⟨A1, c1, rfl⟩ := hrow.rowSlice
      obtain ⟨A2, c2, rfl⟩ := aPl.slice h4.swap
      refine ⟨b1, b2, A1, A2, c1, c2, rfl, h4.swap.drop.swap.drop.swap.drop.swap.drop, ?_⟩
      · refine ⟨by rw [HLL.out]; exact k1, k2, by have := HLL.out; omega, fun i hi => ?_, fun i b hi => ?_⟩
        · obtain ⟨g1, rfl⟩ := hrow.rowNSome (by have := HLL.out; omega)
          exact ⟨g1, rfl, hrow.rowN (numsC_get f (by have := HLL.out; omega))⟩
        · obtain ⟨gl, c3, u, hv, k3, r3⟩ := aPl.at h4.swap hi
          injection hv with e1 e2 e3
          subst e1
          exact ⟨gl, u, rfl, k3, r3⟩
theorem LAll_m (hS : Segs T s N) (hN : N ≤ 1099511627776) (h : St W w (aLgs p dp (T ++ [s]) sure :: X)) :
    Calls Tryz.prog 18 #[.pointer (some ⟨p, 0, none⟩)] w fun e w' => ∃ b1 b2 A1 A2 c1 c2, e = .returned (.func (.func 39) #[] #[.pointer (some ⟨b1, 0, none⟩), .pointer (some ⟨b2, 0, none⟩)]) ∧ St W w' (aLgs p dp (T ++ [s]) sure :: X) ∧ Its w' b1 b2 A1 A2 c1 c2 (first0 T s : Int) (recs T s) := by
  obtain ⟨c1, c2, c3, c4⟩ := hS.cnt
  refine Lall_g ⟨by omega, by omega, by omega⟩ (fun j b => recs_big hS j b) (fun w' Y h' => ?_) (fun w' Y h' => ?_) (fun w' Y h' => ?_) (fun w' Y i b hi h' => LGet_m hS hN hi h') h
  · exact none_s h'
  · exact (first_s h').mono fun e w'' ⟨h1, h2⟩ => ⟨h1, h2 ▸ Below.refl _ _⟩
  · rw [← c2]
    exact last_s hS (by omega) h'
end
end Go.Proofs.YtoikjgcggmemaaaGreatDoor

/- A segment read behind those that were read: reads. -/
namespace Go.Proofs.YtoikjgcggmemaaaGreatDoor
open Go.RowKit Go.Deep Go.Maps
set_option linter.unusedVariables false

section
variable {W w : World} {p dp g off c : Nat} {H G : List (Sg × Value)} {T : List Sg} {sure : Int} {X : List Asn} {x : Sg × Value} {s t : Sg} {v u : Value} {b bs rest : List UInt8} {N k : Nat} {d d1 d' : Dk}
theorem lgM.snocM {vL v0 : Value} {n g' off' c' sz : Nat} (hn : G.length = n) (hsz : (segB t).length = sz)
    (h : St W w (aOff 67 4 g' off' (n + 1) c' (segsV G ++ [.int .i64 t.n, .int .i64 t.first, vL, .int .i64 sz]) :: aBlk p 54 (logC dp sure v0) :: (plsL G ++ (aPl vL t.L :: X)))) :
    St W (w.setCell ⟨p, 3, none⟩ (.slice (some ⟨g', off', none⟩) (n + 1) c')) (lgM p dp (G ++ [(t, vL)]) sure g' off' c' ++ X) := by
  subst hn hsz
  have h1 : St W w (aPl vL t.L :: aOff 67 4 g' off' (G.length + 1) c' (segsV (G ++ [(t, vL)])) :: aBlk p 54 (logC dp sure v0) :: (plsL G ++ X)) := by
    rw [segsV_snoc]
    exact h.perm (List.perm_middle (l₁ := aOff 67 4 g' off' (G.length + 1) c' (segsV G ++ segV (t, vL)) :: aBlk p 54 (logC dp sure v0) :: plsL G) (l₂ := X))
  have h2 := aBlk.set h1.rot3 3 (.slice (some ⟨g', off', none⟩) (G.length + 1) c')
  exact lgM.of_last (x := (t, vL)) h2.rot3.rot3
/-- a segment's file as it is read -/
theorem read_t (ht : t.small) (h1 : 1 ≤ t.first) (hL : ∀ b ∈ t.L, b.length ≤ 524288) (hbs : bs = segB t ++ rest) (hun : unframeF rest = none) (hbl : bs.length ≤ 4194304) (hu : Bs w u bs) :
    Calls Tryz.prog 47 #[.int .i64 (t.n : Int), u] w fun e w' => ∃ vL, e = .returned (.tuple #[.agg #[.int .i64 (t.n : Int), .int .i64 (t.first : Int), vL, .int .i64 ((segB t).length : Int)], .bool true]) ∧ St w w' [aPl vL t.L] := by
  subst hbs
  have hh := seg_head (s := t) ⟨h1, by have := ht.2; omega⟩ rest
  have hf := seg_read (s := t) hL hun
  have := read_s hu (by omega) hh (t.n : Int)
  rw [hf] at this
  have e1 : (t.L.map (fun b => (b, (frameF b).length))).map (·.1) = t.L := by rw [List.map_map]; simp [Function.comp_def]
  have e2 : sizF (headF t.first).length (t.L.map (fun b => (b, (frameF b).length))) = ((segB t).length : Int) := by
    have h2 := seg_size t.L
    unfold sizF segB
    rw [List.length_append, List.map_map]
    have h3 : ((t.L.map ((fun x : List UInt8 × Nat => x.2) ∘ fun b => (b, (frameF b).length))).sum : Nat) = (bodyR t.L).length := by
      have : ∀ L : List (List UInt8), ((L.map ((fun x : List UInt8 × Nat => x.2) ∘ fun b => (b, (frameF b).length))).sum : Nat) = (bodyR L).length := by
        intro L
        induction L with
        | nil => rfl
        | cons b L ih => rw [bodyR_cons, List.length_append, List.map_cons, List.sum_cons, ih]; rfl
      exact this t.L
    rw [h3]
  rw [e1, e2] at this
  exact this
theorem wrapPred {n m : Nat} (h : n + 1 = m) (hm : m ≤ 1099511627776) : IntKind.i64.wrap ((m : Int) - 1) = (n : Int) := by simp [IntKind.wrap, IntKind.signed, IntKind.bits]; omega
theorem le63 {n m : Nat} (h : n + 1 = m) (hm : n + 2 ≤ 1099511627776) : m ≤ 9223372036854775807 ∧ (m + 1) * 48 ≤ 140737488355328 ∧ m + 1 ≤ maxLen := by unfold maxLen; omega
theorem wrapNat {n : Nat} (h : n ≤ 1099511627776) : wrap64 (n : Int) = (n : Int) := by unfold wrap64; omega
theorem lgM.offG {n : Nat} (A : List Asn) (hn : G.length = n) (h : St W w (A ++ (lgM p dp G sure g off c ++ X))) : St W w (aOff 67 4 g off n c (segsV G) :: aBlk p 54 (logC dp sure (.slice (some ⟨g, off, none⟩) n c)) :: (plsL G ++ (A ++ X))) := by
  subst hn
  exact St.swap (lgM.front A h)
set_option maxRecDepth 20000 in
set_option maxHeartbeats 16000000 in
theorem reads_first_mid (hT : TabW W) (ht : t.small) (h1 : 1 ≤ t.first) (hL : ∀ b ∈ t.L, b.length ≤ 524288) (hbs : bs = segB t ++ rest) (hun : unframeF rest = none) (hbl : bs.length ≤ 4194304) (hget : getF d (fileN t.n) = (bs, 0)) (hw : rest = [])
    (h : St W w (aDisk dp d :: ([aBlk p 54 (logC dp 0 (.slice none 0 0))] ++ X))) :
    Calls Tryz.prog 24 #[.pointer (some ⟨p, 0, none⟩), .int .i64 (t.n : Int), .bool false] w fun e w' => ∃ (vL : Value) (g' off' c' : Nat), e = .returned (.int .i64 0) ∧ St W w' (aDisk dp d :: (lgM p dp ([] ++ [(t, vL)]) 0 g' off' c' ++ X)) := by
  have hfm := fileN_max ht.1
  have HFI := Lib.hid (fun w' (hb : B W w') => file_n (hT.later hb) (n := t.n) (by have := ht.1; omega))
  have HGE := Lib.hid (fun (w' : World) (Y : List Asn) (h' : St W w' (aDisk dp d :: Y)) => show Calls Tryz.prog 46 #[.pointer (some ⟨dp, 0, none⟩), .string (bstr (fileN t.n))] w' fun e w' => ∃ v, e = .returned (.tuple #[v, .int .i64 0]) ∧ St W w' (aBy v bs :: aDisk dp d :: Y) from by
    have := get_c h' hfm
    rw [hget] at this
    exact this)
  have HRD := Lib.hid (fun (w' : World) (v : Value) (hv : Bs w' v bs) => read_t ht h1 hL hbs hun hbl hv)
  have HBL := Lib.hid hbl
  obtain ⟨sz, hsz⟩ : ∃ sz, (segB t).length = sz := ⟨_, rfl⟩
  have HSZ := Lib.hid hsz
  obtain ⟨bl, hbl2⟩ : ∃ bl, bs.length = bl := ⟨_, rfl⟩
  have HBL2 := Lib.hid hbl2
  have hszb : sz = bl := by rw [← hbl2, hbs, hw, List.append_nil, hsz]
  subst hszb
  rw [hsz] at HRD
  have HCL := Lib.hid (fun (w' : World) (A Y : List Asn) (h' : St W w' (A ++ ([aBlk p 54 (logC dp 0 (.slice none 0 0))] ++ Y))) => show w'.cell? ⟨p, 0, none⟩ = some (.pointer (some ⟨dp, 0, none⟩)) ∧ w'.cell? ⟨p, 1, none⟩ = some (.string (bstr nLog)) ∧ w'.cell? ⟨p, 3, none⟩ = some (.slice none 0 0) ∧ w'.frozen? ⟨p, 3, none⟩ = false from by
    have h1 : St W w' ([aBlk p 54 (logC dp 0 (.slice none 0 0))] ++ (A ++ Y)) := h'.perm (List.perm_append_comm_assoc _ _ _)
    have hb := aBlk.get h1
    have c0 := hb.cell 0
    have c1 := hb.cell 1
    have c3 := hb.cell 3
    simp [logC] at c0 c1 c3
    exact ⟨c0, c1, c3, hb.frozen 3⟩)
  have H0 := Lib.hid h
  obtain ⟨m0, m1, m3, f3⟩ := HCL.out _ [_] _ h
  obtain ⟨l, hl⟩ : ∃ l, t.L.length = l := ⟨_, rfl⟩
  have HL := Lib.hid hl
  clear h hT hbs hun hget hfm hL hbl2 hl hw
  go_enter Tryz.func24, Tryz.ntmps24
  go_wp2_with fail
  go_region_held3 (fun w' => w'.cell? ⟨p, 0, none⟩ = some (.pointer (some ⟨dp, 0, none⟩)) ∧ w'.cell? ⟨p, 1, none⟩ = some (.string (bstr nLog))) (first | assumption | (refine ⟨?_, ?_⟩ <;> assumption)) (first
      | (go_at_call 31; (with_reducible refine (HFI.out _ (H0.out.later (Below.refl _ _).drew).b).mono ?_); rintro e w1 ⟨rfl, hb⟩; have H1 := Lib.hid ((H0.out.later (Below.refl _ _).drew).later hb); clear hb m0 m1 m3 f3; obtain ⟨m0, m1, m3, f3⟩ := HCL.out _ [_] _ H1.out)
      | (go_at_call 46; (with_reducible refine (HGE.out _ _ H1.out).mono ?_); rintro e w2 ⟨vb, rfl, h'⟩; obtain ⟨Av, cv, hv⟩ := h'.bySlice; rw [HBL2.out] at hv; subst hv; have H2 := Lib.hid h'; clear h' m0 m1 m3 f3; obtain ⟨m0, m1, m3, f3⟩ := HCL.out _ [_, _] _ H2.out))
  go_wp2_with (first
      | (go_at_call 47; (with_reducible refine (HRD.out _ _ ((show St W w2 (aBy _ bs :: _) from H2.out).byBs (by have := HBL.out; unfold big; omega))).mono ?_); rintro e w3 ⟨vL, rfl, hS⟩; have h3 := H2.out.onto hS; obtain ⟨AL, cL, hv⟩ := aPl.slice h3; rw [HL.out] at hv; subst hv; have h4 := aBlk.new h3 67 #[.int .i64 t.n, .int .i64 (t.first : Int), .slice AL l cL, .int .i64 (sz : Int)]; have H4 := Lib.hid h4.rot4; clear hS h3 m0 m1 m3 f3; obtain ⟨m0, m1, m3, f3⟩ := HCL.out _ [_, _, _, _] _ H4.out; have q0 := (aBlk.get h4).cell 0; have q1 := (aBlk.get h4).cell 1; have q2 := (aBlk.get h4).cell 2; have q3 := (aBlk.get h4).cell 3; simp only [List.getElem?_toArray, List.getElem?_cons_zero] at q0; simp only [List.getElem?_toArray, List.getElem?_cons_zero, List.getElem?_cons_succ] at q1 q2 q3; clear h4))
  obtain ⟨w4, hw4⟩ : ∃ w4, w3.alloc (.cells #[.int .i64 t.n, .int .i64 (t.first : Int), .slice AL l cL, .int .i64 (sz : Int)] 67) = w4 := ⟨_, rfl⟩
  rw [hw4] at H4 q0 q1 q2 q3 m0 m1 m3 f3 ⊢
  obtain ⟨qb, hqb⟩ : ∃ qb, w3.heap.size = qb := ⟨_, rfl⟩
  rw [hqb] at H4 q0 q1 q2 q3 ⊢
  have HCQ := Lib.hid (fun (w' : World) (D : Asn) (Y : List Asn) (h' : St W w' (D :: aBlk qb 67 #[.int .i64 t.n, .int .i64 (t.first : Int), .slice AL l cL, .int .i64 (sz : Int)] :: Y)) => show w'.cell? ⟨qb, 0, none⟩ = some (.int .i64 t.n) ∧ w'.cell? ⟨qb, 1, none⟩ = some (.int .i64 (t.first : Int)) ∧ w'.cell? ⟨qb, 2, none⟩ = some (.slice AL l cL) ∧ w'.cell? ⟨qb, 3, none⟩ = some (.int .i64 (sz : Int)) from by
    have hb := aBlk.get h'.swap
    have q0 := hb.cell 0
    have q1 := hb.cell 1
    have q2 := hb.cell 2
    have q3 := hb.cell 3
    simp at q0 q1 q2 q3
    exact ⟨q0, q1, q2, q3⟩)
  clear hw4 hqb
  have o4 : ∀ x ∈ [Value.int .i64 t.n, .int .i64 (t.first : Int), .slice AL l cL, .int .i64 (sz : Int)], x.oneCell' = true := by simp [Value.oneCell']
  have HA := Lib.hid (H4.out.later (B.alloc' _ (.cells #[.int .i64 t.n, .int .i64 (t.first : Int), .slice AL l cL, .int .i64 (sz : Int)] 67)))
  obtain ⟨ma0, ma1, ma3, maf⟩ := HCL.out _ [_, _, _, _] _ HA.out
  have HK := Lib.hid (fun (w' : World) (g7 c7 : Nat) (h' : St W w' (aRow 67 4 (.slice (some ⟨g7, 0, none⟩) 1 c7) 1 [.int .i64 t.n, .int .i64 (t.first : Int), .slice AL l cL, .int .i64 (sz : Int)] :: aDisk dp d :: aBlk qb 67 #[.int .i64 t.n, .int .i64 (t.first : Int), .slice AL l cL, .int .i64 (sz : Int)] :: aPl (.slice AL l cL) t.L :: aBy (.slice Av sz cv) bs :: ([aBlk p 54 (logC dp 0 (.slice none 0 0))] ++ X))) =>
    (show St W (w'.setCell ⟨p, 3, none⟩ (.slice (some ⟨g7, 0, none⟩) 1 c7)) (lgM p dp ([] ++ [(t, Value.slice AL l cL)]) 0 g7 0 c7 ++ (aDisk dp d :: aBlk qb 67 #[.int .i64 t.n, .int .i64 (t.first : Int), .slice AL l cL, .int .i64 (sz : Int)] :: aBy (.slice Av sz cv) bs :: X)) from
      lgM.snocM (n := 0) rfl HSZ.out ((aOff.of_row h').rot6.swap.rot5.rot3.rot3)))
  have HP3 := Lib.hid (fun (w' : World) (Y : List Asn) (A1 A2 A3 A4 A5 : Asn) (h' : St W w' (A1 :: A2 :: A3 :: A4 :: A5 :: ([aBlk p 54 (logC dp 0 (.slice none 0 0))] ++ Y))) => HCL.out _ [_, _, _, _, _] _ h')
  go_region_law (first
    | (refine step_append_St rfl (.tmp 175) (.tmp 177) 52 rfl Tryz.underlying52 infoSeg rfl (by decide) rfl rfl (((H4.out.later (Below.refl _ _).drew).later (B.alloc' _ _)).rowNil 67 4) (Rd.four _ _ _ _ _ _) o4 (by unfold maxLen; omega) (by omega) ?_; intro A7 c7 w7 hS; simp only [Nat.zero_add, List.nil_append] at hS; simp only [Nat.zero_add]; obtain ⟨g7, rfl⟩ := hS.rowNSome (by omega); have H8 := Lib.hid (HK.out _ _ _ hS); have k73 := (HP3.out _ _ _ _ _ _ _ hS).2.2.1; have f73 := (HP3.out _ _ _ _ _ _ _ hS).2.2.2; clear hS))
  all_goals
    clear m0 m1 m3 f3 q0 q1 q2 q3 k73 f73 ma0 ma1 ma3 maf
    obtain ⟨m0, m1, _, m3, _⟩ := lgM.cells H8.out
    go_wp2_with fail
    go_ret
    exact ⟨_, g7, 0, c7, rfl, (lgM.back [_, _, _] H8.out).drop2.drop2⟩
set_option maxRecDepth 20000 in
set_option maxHeartbeats 16000000 in
theorem reads_first_whole (hT : TabW W) (ht : t.small) (h1 : 1 ≤ t.first) (hL : ∀ b ∈ t.L, b.length ≤ 524288) (hbs : bs = segB t ++ rest) (hun : unframeF rest = none) (hbl : bs.length ≤ 4194304) (hget : getF d (fileN t.n) = (bs, 0)) (hw : rest = []) (hsy : syncF d (fileN t.n) = (0, d'))
    (h : St W w (aDisk dp d :: ([aBlk p 54 (logC dp 0 (.slice none 0 0))] ++ X))) :
    Calls Tryz.prog 24 #[.pointer (some ⟨p, 0, none⟩), .int .i64 (t.n : Int), .bool true] w fun e w' => ∃ (vL : Value) (g' off' c' : Nat), e = .returned (.int .i64 0) ∧ St W w' (aDisk dp d' :: (lgM p dp ([] ++ [(t, vL)]) 0 g' off' c' ++ X)) := by
  have hfm := fileN_max ht.1
  have HFI := Lib.hid (fun w' (hb : B W w') => file_n (hT.later hb) (n := t.n) (by have := ht.1; omega))
  have HGE := Lib.hid (fun (w' : World) (Y : List Asn) (h' : St W w' (aDisk dp d :: Y)) => show Calls Tryz.prog 46 #[.pointer (some ⟨dp, 0, none⟩), .string (bstr (fileN t.n))] w' fun e w' => ∃ v, e = .returned (.tuple #[v, .int .i64 0]) ∧ St W w' (aBy v bs :: aDisk dp d :: Y) from by
    have := get_c h' hfm
    rw [hget] at this
    exact this)
  have HRD := Lib.hid (fun (w' : World) (v : Value) (hv : Bs w' v bs) => read_t ht h1 hL hbs hun hbl hv)
  have HBL := Lib.hid hbl
  obtain ⟨sz, hsz⟩ : ∃ sz, (segB t).length = sz := ⟨_, rfl⟩
  have HSZ := Lib.hid hsz
  obtain ⟨bl, hbl2⟩ : ∃ bl, bs.length = bl := ⟨_, rfl⟩
  have HBL2 := Lib.hid hbl2
  have hszb : sz = bl := by rw [← hbl2, hbs, hw, List.append_nil, hsz]
  subst hszb
  have HSY := Lib.hid (fun (w' : World) (Y : List Asn) (h' : St W w' (aDisk dp d :: Y)) => show Calls Tryz.prog 33 #[.pointer (some ⟨dp, 0, none⟩), .string (bstr (fileN t.n))] w' fun e w' => e = .returned (.int .i64 0) ∧ St W w' (aDisk dp d' :: Y) from by
    have := sync_c h' hfm
    rw [hsy] at this
    exact this)
  rw [hsz] at HRD
  have HCL := Lib.hid (fun (w' : World) (A Y : List Asn) (h' : St W w' (A ++ ([aBlk p 54 (logC dp 0 (.slice none 0 0))] ++ Y))) => show w'.cell? ⟨p, 0, none⟩ = some (.pointer (some ⟨dp, 0, none⟩)) ∧ w'.cell? ⟨p, 1, none⟩ = some (.string (bstr nLog)) ∧ w'.cell? ⟨p, 3, none⟩ = some (.slice none 0 0) ∧ w'.frozen? ⟨p, 3, none⟩ = false from by
    have h1 : St W w' ([aBlk p 54 (logC dp 0 (.slice none 0 0))] ++ (A ++ Y)) := h'.perm (List.perm_append_comm_assoc _ _ _)
    have hb := aBlk.get h1
    have c0 := hb.cell 0
    have c1 := hb.cell 1
    have c3 := hb.cell 3
    simp [logC] at c0 c1 c3
    exact ⟨c0, c1, c3, hb.frozen 3⟩)
  have H0 := Lib.hid h
  obtain ⟨m0, m1, m3, f3⟩ := HCL.out _ [_] _ h
  obtain ⟨l, hl⟩ : ∃ l, t.L.length = l := ⟨_, rfl⟩
  have HL := Lib.hid hl
  clear h hT hbs hun hget hfm hL hbl2 hl hw hsy
  go_enter Tryz.func24, Tryz.ntmps24
  go_wp2_with fail
  go_region_held3 (fun w' => w'.cell? ⟨p, 0, none⟩ = some (.pointer (some ⟨dp, 0, none⟩)) ∧ w'.cell? ⟨p, 1, none⟩ = some (.string (bstr nLog))) (first | assumption | (refine ⟨?_, ?_⟩ <;> assumption)) (first
      | (go_at_call 31; (with_reducible refine (HFI.out _ (H0.out.later (Below.refl _ _).drew).b).mono ?_); rintro e w1 ⟨rfl, hb⟩; have H1 := Lib.hid ((H0.out.later (Below.refl _ _).drew).later hb); clear hb m0 m1 m3 f3; obtain ⟨m0, m1, m3, f3⟩ := HCL.out _ [_] _ H1.out)
      | (go_at_call 46; (with_reducible refine (HGE.out _ _ H1.out).mono ?_); rintro e w2 ⟨vb, rfl, h'⟩; obtain ⟨Av, cv, hv⟩ := h'.bySlice; rw [HBL2.out] at hv; subst hv; have H2 := Lib.hid h'; clear h' m0 m1 m3 f3; obtain ⟨m0, m1, m3, f3⟩ := HCL.out _ [_, _] _ H2.out))
  go_wp2_with (first
      | (go_at_call 47; (with_reducible refine (HRD.out _ _ ((show St W w2 (aBy _ bs :: _) from H2.out).byBs (by have := HBL.out; unfold big; omega))).mono ?_); rintro e w3 ⟨vL, rfl, hS⟩; have h3 := H2.out.onto hS; obtain ⟨AL, cL, hv⟩ := aPl.slice h3; rw [HL.out] at hv; subst hv; have h4 := aBlk.new h3 67 #[.int .i64 t.n, .int .i64 (t.first : Int), .slice AL l cL, .int .i64 (sz : Int)]; have H4 := Lib.hid h4.rot4; clear hS h3 m0 m1 m3 f3; obtain ⟨m0, m1, m3, f3⟩ := HCL.out _ [_, _, _, _] _ H4.out; have q0 := (aBlk.get h4).cell 0; have q1 := (aBlk.get h4).cell 1; have q2 := (aBlk.get h4).cell 2; have q3 := (aBlk.get h4).cell 3; simp only [List.getElem?_toArray, List.getElem?_cons_zero] at q0; simp only [List.getElem?_toArray, List.getElem?_cons_zero, List.getElem?_cons_succ] at q1 q2 q3; clear h4))
  obtain ⟨w4, hw4⟩ : ∃ w4, w3.alloc (.cells #[.int .i64 t.n, .int .i64 (t.first : Int), .slice AL l cL, .int .i64 (sz : Int)] 67) = w4 := ⟨_, rfl⟩
  rw [hw4] at H4 q0 q1 q2 q3 m0 m1 m3 f3 ⊢
  obtain ⟨qb, hqb⟩ : ∃ qb, w3.heap.size = qb := ⟨_, rfl⟩
  rw [hqb] at H4 q0 q1 q2 q3 ⊢
  have HCQ := Lib.hid (fun (w' : World) (D : Asn) (Y : List Asn) (h' : St W w' (D :: aBlk qb 67 #[.int .i64 t.n, .int .i64 (t.first : Int), .slice AL l cL, .int .i64 (sz : Int)] :: Y)) => show w'.cell? ⟨qb, 0, none⟩ = some (.int .i64 t.n) ∧ w'.cell? ⟨qb, 1, none⟩ = some (.int .i64 (t.first : Int)) ∧ w'.cell? ⟨qb, 2, none⟩ = some (.slice AL l cL) ∧ w'.cell? ⟨qb, 3, none⟩ = some (.int .i64 (sz : Int)) from by
    have hb := aBlk.get h'.swap
    have q0 := hb.cell 0
    have q1 := hb.cell 1
    have q2 := hb.cell 2
    have q3 := hb.cell 3
    simp at q0 q1 q2 q3
    exact ⟨q0, q1, q2, q3⟩)
  clear hw4 hqb
  have o4 : ∀ x ∈ [Value.int .i64 t.n, .int .i64 (t.first : Int), .slice AL l cL, .int .i64 (sz : Int)], x.oneCell' = true := by simp [Value.oneCell']
  have HA := Lib.hid (H4.out.later (B.alloc' _ (.cells #[.int .i64 t.n, .int .i64 (t.first : Int), .slice AL l cL, .int .i64 (sz : Int)] 67)))
  obtain ⟨ma0, ma1, ma3, maf⟩ := HCL.out _ [_, _, _, _] _ HA.out
  have HK := Lib.hid (fun (w' : World) (g7 c7 : Nat) (h' : St W w' (aRow 67 4 (.slice (some ⟨g7, 0, none⟩) 1 c7) 1 [.int .i64 t.n, .int .i64 (t.first : Int), .slice AL l cL, .int .i64 (sz : Int)] :: aDisk dp d :: aBlk qb 67 #[.int .i64 t.n, .int .i64 (t.first : Int), .slice AL l cL, .int .i64 (sz : Int)] :: aPl (.slice AL l cL) t.L :: aBy (.slice Av sz cv) bs :: ([aBlk p 54 (logC dp 0 (.slice none 0 0))] ++ X))) =>
    (show St W (w'.setCell ⟨p, 3, none⟩ (.slice (some ⟨g7, 0, none⟩) 1 c7)) (lgM p dp ([] ++ [(t, Value.slice AL l cL)]) 0 g7 0 c7 ++ (aDisk dp d :: aBlk qb 67 #[.int .i64 t.n, .int .i64 (t.first : Int), .slice AL l cL, .int .i64 (sz : Int)] :: aBy (.slice Av sz cv) bs :: X)) from
      lgM.snocM (n := 0) rfl HSZ.out ((aOff.of_row h').rot6.swap.rot5.rot3.rot3)))
  have HP3 := Lib.hid (fun (w' : World) (Y : List Asn) (A1 A2 A3 A4 A5 : Asn) (h' : St W w' (A1 :: A2 :: A3 :: A4 :: A5 :: ([aBlk p 54 (logC dp 0 (.slice none 0 0))] ++ Y))) => HCL.out _ [_, _, _, _, _] _ h')
  go_region_law (first
    | (refine step_append_St rfl (.tmp 175) (.tmp 177) 52 rfl Tryz.underlying52 infoSeg rfl (by decide) rfl rfl (((H4.out.later (Below.refl _ _).drew).later (B.alloc' _ _)).rowNil 67 4) (Rd.four _ _ _ _ _ _) o4 (by unfold maxLen; omega) (by omega) ?_; intro A7 c7 w7 hS; simp only [Nat.zero_add, List.nil_append] at hS; simp only [Nat.zero_add]; obtain ⟨g7, rfl⟩ := hS.rowNSome (by omega); have H8 := Lib.hid (HK.out _ _ _ hS); have k73 := (HP3.out _ _ _ _ _ _ _ hS).2.2.1; have f73 := (HP3.out _ _ _ _ _ _ _ hS).2.2.2; clear hS))
  all_goals
    clear m0 m1 m3 f3 q0 q1 q2 q3 k73 f73 ma0 ma1 ma3 maf
    obtain ⟨m0, m1, _, m3, _⟩ := lgM.cells H8.out
    go_wp2_with fail
    go_region_held3 (fun w' => w'.cell? ⟨p, 0, none⟩ = some (.pointer (some ⟨dp, 0, none⟩)) ∧ w'.cell? ⟨p, 1, none⟩ = some (.string (bstr nLog))) (first | assumption | (refine ⟨?_, ?_⟩ <;> assumption)) (first
      | (go_at_call 31; (with_reducible refine (HFI.out _ (H8.out.later (Below.refl _ _).drew).b).mono ?_); rintro e w8 ⟨rfl, hb⟩; have H9 := Lib.hid ((H8.out.later (Below.refl _ _).drew).later hb); clear hb m0 m1 m3; obtain ⟨m0, m1, _, m3, _⟩ := lgM.cells H9.out)
      | (go_at_call 33; (with_reducible refine (HSY.out _ _ H9.out.deep).mono ?_); rintro e w9 ⟨rfl, h'⟩; have H10 := Lib.hid (lgM.front [_] h'); clear h' m0 m1 m3; obtain ⟨m0, m1, _, m3, _⟩ := lgM.cells H10.out))
    all_goals
      go_wp2_with fail
      go_ret
      exact ⟨_, g7, 0, c7, rfl, (lgM.back [_, _, _] H10.out).drop2.drop2⟩
set_option maxRecDepth 20000 in
set_option maxHeartbeats 16000000 in
theorem reads_first_torn (hT : TabW W) (ht : t.small) (h1 : 1 ≤ t.first) (hL : ∀ b ∈ t.L, b.length ≤ 524288) (hbs : bs = segB t ++ rest) (hun : unframeF rest = none) (hbl : bs.length ≤ 4194304) (hget : getF d (fileN t.n) = (bs, 0)) (hne : rest ≠ []) (htr : truncF d (fileN t.n) ((segB t).length : Int) = (0, d1)) (hsy : syncF d1 (fileN t.n) = (0, d'))
    (h : St W w (aDisk dp d :: ([aBlk p 54 (logC dp 0 (.slice none 0 0))] ++ X))) :
    Calls Tryz.prog 24 #[.pointer (some ⟨p, 0, none⟩), .int .i64 (t.n : Int), .bool true] w fun e w' => ∃ (vL : Value) (g' off' c' : Nat), e = .returned (.int .i64 0) ∧ St W w' (aDisk dp d' :: (lgM p dp ([] ++ [(t, vL)]) 0 g' off' c' ++ X)) := by
  have hfm := fileN_max ht.1
  have HFI := Lib.hid (fun w' (hb : B W w') => file_n (hT.later hb) (n := t.n) (by have := ht.1; omega))
  have HGE := Lib.hid (fun (w' : World) (Y : List Asn) (h' : St W w' (aDisk dp d :: Y)) => show Calls Tryz.prog 46 #[.pointer (some ⟨dp, 0, none⟩), .string (bstr (fileN t.n))] w' fun e w' => ∃ v, e = .returned (.tuple #[v, .int .i64 0]) ∧ St W w' (aBy v bs :: aDisk dp d :: Y) from by
    have := get_c h' hfm
    rw [hget] at this
    exact this)
  have HRD := Lib.hid (fun (w' : World) (v : Value) (hv : Bs w' v bs) => read_t ht h1 hL hbs hun hbl hv)
  have HBL := Lib.hid hbl
  obtain ⟨sz, hsz⟩ : ∃ sz, (segB t).length = sz := ⟨_, rfl⟩
  have HSZ := Lib.hid hsz
  obtain ⟨bl, hbl2⟩ : ∃ bl, bs.length = bl := ⟨_, rfl⟩
  have HBL2 := Lib.hid hbl2
  have hszb : (sz : Int) < (bl : Int) := by
    have h5 : 0 < rest.length := List.length_pos_iff.2 hne
    have h6 := hbl2
    rw [hbs, List.length_append, hsz] at h6
    omega
  have hszm : sz ≤ 4194304 := by omega
  have HTR := Lib.hid (fun (w' : World) (Y : List Asn) (h' : St W w' (aDisk dp d :: Y)) => show Calls Tryz.prog 48 #[.pointer (some ⟨dp, 0, none⟩), .string (bstr (fileN t.n)), .int .i64 (sz : Int)] w' fun e w' => e = .returned (.int .i64 0) ∧ St W w' (aDisk dp d1 :: Y) from by
    have := trunc_c (k := (sz : Int)) h' hfm (by omega)
    rw [← hsz, htr, hsz] at this
    exact this)
  have HSY := Lib.hid (fun (w' : World) (Y : List Asn) (h' : St W w' (aDisk dp d1 :: Y)) => show Calls Tryz.prog 33 #[.pointer (some ⟨dp, 0, none⟩), .string (bstr (fileN t.n))] w' fun e w' => e = .returned (.int .i64 0) ∧ St W w' (aDisk dp d' :: Y) from by
    have := sync_c h' hfm
    rw [hsy] at this
    exact this)
  rw [hsz] at HRD
  have HCL := Lib.hid (fun (w' : World) (A Y : List Asn) (h' : St W w' (A ++ ([aBlk p 54 (logC dp 0 (.slice none 0 0))] ++ Y))) => show w'.cell? ⟨p, 0, none⟩ = some (.pointer (some ⟨dp, 0, none⟩)) ∧ w'.cell? ⟨p, 1, none⟩ = some (.string (bstr nLog)) ∧ w'.cell? ⟨p, 3, none⟩ = some (.slice none 0 0) ∧ w'.frozen? ⟨p, 3, none⟩ = false from by
    have h1 : St W w' ([aBlk p 54 (logC dp 0 (.slice none 0 0))] ++ (A ++ Y)) := h'.perm (List.perm_append_comm_assoc _ _ _)
    have hb := aBlk.get h1
    have c0 := hb.cell 0
    have c1 := hb.cell 1
    have c3 := hb.cell 3
    simp [logC] at c0 c1 c3
    exact ⟨c0, c1, c3, hb.frozen 3⟩)
  have H0 := Lib.hid h
  obtain ⟨m0, m1, m3, f3⟩ := HCL.out _ [_] _ h
  obtain ⟨l, hl⟩ : ∃ l, t.L.length = l := ⟨_, rfl⟩
  have HL := Lib.hid hl
  clear h hT hbs hun hget hfm hL hbl2 hl hne htr hsy
  go_enter Tryz.func24, Tryz.ntmps24
  go_wp2_with fail
  go_region_held3 (fun w' => w'.cell? ⟨p, 0, none⟩ = some (.pointer (some ⟨dp, 0, none⟩)) ∧ w'.cell? ⟨p, 1, none⟩ = some (.string (bstr nLog))) (first | assumption | (refine ⟨?_, ?_⟩ <;> assumption)) (first
      | (go_at_call 31; (with_reducible refine (HFI.out _ (H0.out.later (Below.refl _ _).drew).b).mono ?_); rintro e w1 ⟨rfl, hb⟩; have H1 := Lib.hid ((H0.out.later (Below.refl _ _).drew).later hb); clear hb m0 m1 m3 f3; obtain ⟨m0, m1, m3, f3⟩ := HCL.out _ [_] _ H1.out)
      | (go_at_call 46; (with_reducible refine (HGE.out _ _ H1.out).mono ?_); rintro e w2 ⟨vb, rfl, h'⟩; obtain ⟨Av, cv, hv⟩ := h'.bySlice; rw [HBL2.out] at hv; subst hv; have H2 := Lib.hid h'; clear h' m0 m1 m3 f3; obtain ⟨m0, m1, m3, f3⟩ := HCL.out _ [_, _] _ H2.out))
  go_wp2_with (first
      | (go_at_call 47; (with_reducible refine (HRD.out _ _ ((show St W w2 (aBy _ bs :: _) from H2.out).byBs (by have := HBL.out; unfold big; omega))).mono ?_); rintro e w3 ⟨vL, rfl, hS⟩; have h3 := H2.out.onto hS; obtain ⟨AL, cL, hv⟩ := aPl.slice h3; rw [HL.out] at hv; subst hv; have h4 := aBlk.new h3 67 #[.int .i64 t.n, .int .i64 (t.first : Int), .slice AL l cL, .int .i64 (sz : Int)]; have H4 := Lib.hid h4.rot4; clear hS h3 m0 m1 m3 f3; obtain ⟨m0, m1, m3, f3⟩ := HCL.out _ [_, _, _, _] _ H4.out; have q0 := (aBlk.get h4).cell 0; have q1 := (aBlk.get h4).cell 1; have q2 := (aBlk.get h4).cell 2; have q3 := (aBlk.get h4).cell 3; simp only [List.getElem?_toArray, List.getElem?_cons_zero] at q0; simp only [List.getElem?_toArray, List.getElem?_cons_zero, List.getElem?_cons_succ] at q1 q2 q3; clear h4))
  obtain ⟨w4, hw4⟩ : ∃ w4, w3.alloc (.cells #[.int .i64 t.n, .int .i64 (t.first : Int), .slice AL l cL, .int .i64 (sz : Int)] 67) = w4 := ⟨_, rfl⟩
  rw [hw4] at H4 q0 q1 q2 q3 m0 m1 m3 f3 ⊢
  obtain ⟨qb, hqb⟩ : ∃ qb, w3.heap.size = qb := ⟨_, rfl⟩
  rw [hqb] at H4 q0 q1 q2 q3 ⊢
  have HCQ := Lib.hid (fun (w' : World) (D : Asn) (Y : List Asn) (h' : St W w' (D :: aBlk qb 67 #[.int .i64 t.n, .int .i64 (t.first : Int), .slice AL l cL, .int .i64 (sz : Int)] :: Y)) => show w'.cell? ⟨qb, 0, none⟩ = some (.int .i64 t.n) ∧ w'.cell? ⟨qb, 1, none⟩ = some (.int .i64 (t.first : Int)) ∧ w'.cell? ⟨qb, 2, none⟩ = some (.slice AL l cL) ∧ w'.cell? ⟨qb, 3, none⟩ = some (.int .i64 (sz : Int)) from by
    have hb := aBlk.get h'.swap
    have q0 := hb.cell 0
    have q1 := hb.cell 1
    have q2 := hb.cell 2
    have q3 := hb.cell 3
    simp at q0 q1 q2 q3
    exact ⟨q0, q1, q2, q3⟩)
  clear hw4 hqb
  go_region_held3 (fun w' => w'.cell? ⟨p, 0, none⟩ = some (.pointer (some ⟨dp, 0, none⟩)) ∧ w'.cell? ⟨p, 1, none⟩ = some (.string (bstr nLog)) ∧ w'.cell? ⟨qb, 3, none⟩ = some (.int .i64 (sz : Int))) (first | assumption | (refine ⟨?_, ?_, ?_⟩ <;> assumption)) (first
      | (go_at_call 31; (with_reducible refine (HFI.out _ (H4.out.later (Below.refl _ _).drew).b).mono ?_); rintro e w6 ⟨rfl, hb⟩; have H6 := Lib.hid ((H4.out.later (Below.refl _ _).drew).later hb); clear hb m0 m1 m3 f3 q0 q1 q2 q3; obtain ⟨m0, m1, m3, f3⟩ := HCL.out _ [_, _, _, _] _ H6.out; obtain ⟨q0, q1, q2, q3⟩ := HCQ.out _ _ _ H6.out)
      | (go_at_call 48; (with_reducible refine (HTR.out _ _ H6.out).mono ?_); rintro e w7 ⟨rfl, h'⟩; have H7 := Lib.hid h'; clear h' m0 m1 m3 f3 q0 q1 q2 q3; obtain ⟨m0, m1, m3, f3⟩ := HCL.out _ [_, _, _, _] _ H7.out; obtain ⟨q0, q1, q2, q3⟩ := HCQ.out _ _ _ H7.out))
  all_goals
    go_wp2_with fail
    have o4 : ∀ x ∈ [Value.int .i64 t.n, .int .i64 (t.first : Int), .slice AL l cL, .int .i64 (sz : Int)], x.oneCell' = true := by simp [Value.oneCell']
    have HA := Lib.hid (H7.out.later (B.alloc' _ (.cells #[.int .i64 t.n, .int .i64 (t.first : Int), .slice AL l cL, .int .i64 (sz : Int)] 67)))
    obtain ⟨ma0, ma1, ma3, maf⟩ := HCL.out _ [_, _, _, _] _ HA.out
    have HK := Lib.hid (fun (w' : World) (g7 c7 : Nat) (h' : St W w' (aRow 67 4 (.slice (some ⟨g7, 0, none⟩) 1 c7) 1 [.int .i64 t.n, .int .i64 (t.first : Int), .slice AL l cL, .int .i64 (sz : Int)] :: aDisk dp d1 :: aBlk qb 67 #[.int .i64 t.n, .int .i64 (t.first : Int), .slice AL l cL, .int .i64 (sz : Int)] :: aPl (.slice AL l cL) t.L :: aBy (.slice Av bl cv) bs :: ([aBlk p 54 (logC dp 0 (.slice none 0 0))] ++ X))) =>
      (show St W (w'.setCell ⟨p, 3, none⟩ (.slice (some ⟨g7, 0, none⟩) 1 c7)) (lgM p dp ([] ++ [(t, Value.slice AL l cL)]) 0 g7 0 c7 ++ (aDisk dp d1 :: aBlk qb 67 #[.int .i64 t.n, .int .i64 (t.first : Int), .slice AL l cL, .int .i64 (sz : Int)] :: aBy (.slice Av bl cv) bs :: X)) from
        lgM.snocM (n := 0) rfl HSZ.out ((aOff.of_row h').rot6.swap.rot5.rot3.rot3)))
    have HP3 := Lib.hid (fun (w' : World) (Y : List Asn) (A1 A2 A3 A4 A5 : Asn) (h' : St W w' (A1 :: A2 :: A3 :: A4 :: A5 :: ([aBlk p 54 (logC dp 0 (.slice none 0 0))] ++ Y))) => HCL.out _ [_, _, _, _, _] _ h')
    go_region_law (first
      | (refine step_append_St rfl (.tmp 175) (.tmp 177) 52 rfl Tryz.underlying52 infoSeg rfl (by decide) rfl rfl (((H7.out.later (Below.refl _ _).drew).later (B.alloc' _ _)).rowNil 67 4) (Rd.four _ _ _ _ _ _) o4 (by unfold maxLen; omega) (by omega) ?_; intro A7 c7 w7 hS; simp only [Nat.zero_add, List.nil_append] at hS; simp only [Nat.zero_add]; obtain ⟨g7, rfl⟩ := hS.rowNSome (by omega); have H8 := Lib.hid (HK.out _ _ _ hS); have k73 := (HP3.out _ _ _ _ _ _ _ hS).2.2.1; have f73 := (HP3.out _ _ _ _ _ _ _ hS).2.2.2; clear hS))
    all_goals
      clear m0 m1 m3 f3 q0 q1 q2 q3 k73 f73 ma0 ma1 ma3 maf
      obtain ⟨m0, m1, _, m3, _⟩ := lgM.cells H8.out
      go_wp2_with fail
      go_region_held3 (fun w' => w'.cell? ⟨p, 0, none⟩ = some (.pointer (some ⟨dp, 0, none⟩)) ∧ w'.cell? ⟨p, 1, none⟩ = some (.string (bstr nLog))) (first | assumption | (refine ⟨?_, ?_⟩ <;> assumption)) (first
        | (go_at_call 31; (with_reducible refine (HFI.out _ (H8.out.later (Below.refl _ _).drew).b).mono ?_); rintro e w8 ⟨rfl, hb⟩; have H9 := Lib.hid ((H8.out.later (Below.refl _ _).drew).later hb); clear hb m0 m1 m3; obtain ⟨m0, m1, _, m3, _⟩ := lgM.cells H9.out)
        | (go_at_call 33; (with_reducible refine (HSY.out _ _ H9.out.deep).mono ?_); rintro e w9 ⟨rfl, h'⟩; have H10 := Lib.hid (lgM.front [_] h'); clear h' m0 m1 m3; obtain ⟨m0, m1, _, m3, _⟩ := lgM.cells H10.out))
      all_goals
        go_wp2_with fail
        go_ret
        exact ⟨_, g7, 0, c7, rfl, (lgM.back [_, _, _] H10.out).drop2.drop2⟩
end
end Go.Proofs.YtoikjgcggmemaaaGreatDoor

/- A segment read behind those that were read: reads, of a later one. -/
namespace Go.Proofs.YtoikjgcggmemaaaGreatDoor
open Go.RowKit Go.Deep Go.Maps
set_option linter.unusedVariables false

section
variable {W w : World} {p dp g off c : Nat} {H G : List (Sg × Value)} {T : List Sg} {sure : Int} {X : List Asn} {x : Sg × Value} {s t : Sg} {v u : Value} {b bs rest : List UInt8} {N k : Nat} {d d1 d' : Dk}
set_option maxRecDepth 20000 in
set_option maxHeartbeats 16000000 in
theorem reads_next_mid (hT : TabW W) (ht : t.small) (h1 : 1 ≤ t.first) (hL : ∀ b ∈ t.L, b.length ≤ 524288) (hbs : bs = segB t ++ rest) (hun : unframeF rest = none) (hbl : bs.length ≤ 4194304) (hget : getF d (fileN t.n) = (bs, 0)) (hw : rest = []) (hs : s.small) (hnx : t.first = s.first + s.L.length) (hgl : H.length + 2 ≤ 1099511627776)
    (h : St W w (aDisk dp d :: (lgM p dp (H ++ [(s, v)]) 0 g off c ++ X))) :
    Calls Tryz.prog 24 #[.pointer (some ⟨p, 0, none⟩), .int .i64 (t.n : Int), .bool false] w fun e w' => ∃ (vL : Value) (g' off' c' : Nat), e = .returned (.int .i64 0) ∧ St W w' (aDisk dp d :: (lgM p dp ((H ++ [(s, v)]) ++ [(t, vL)]) 0 g' off' c' ++ X)) := by
  have hfm := fileN_max ht.1
  have HFI := Lib.hid (fun w' (hb : B W w') => file_n (hT.later hb) (n := t.n) (by have := ht.1; omega))
  have HGE := Lib.hid (fun (w' : World) (Y : List Asn) (h' : St W w' (aDisk dp d :: Y)) => show Calls Tryz.prog 46 #[.pointer (some ⟨dp, 0, none⟩), .string (bstr (fileN t.n))] w' fun e w' => ∃ v, e = .returned (.tuple #[v, .int .i64 0]) ∧ St W w' (aBy v bs :: aDisk dp d :: Y) from by
    have := get_c h' hfm
    rw [hget] at this
    exact this)
  have HRD := Lib.hid (fun (w' : World) (v : Value) (hv : Bs w' v bs) => read_t ht h1 hL hbs hun hbl hv)
  have HBL := Lib.hid hbl
  obtain ⟨sz, hsz⟩ : ∃ sz, (segB t).length = sz := ⟨_, rfl⟩
  have HSZ := Lib.hid hsz
  obtain ⟨bl, hbl2⟩ : ∃ bl, bs.length = bl := ⟨_, rfl⟩
  have HBL2 := Lib.hid hbl2
  have hszb : sz = bl := by rw [← hbl2, hbs, hw, List.append_nil, hsz]
  subst hszb
  rw [hsz] at HRD
  obtain ⟨As, cs, hv⟩ := lgM.slice (lgM.front [_] h) (i := H.length) (x := (s, v)) (by simp)
  simp only at hv
  subst hv
  obtain ⟨hn, hhn⟩ : ∃ hn, H.length = hn := ⟨_, rfl⟩
  obtain ⟨hm, hhm⟩ : ∃ hm, hn + 1 = hm := ⟨_, rfl⟩
  have HHN := Lib.hid (show (H ++ [(s, Value.slice As s.L.length cs)]).length = hm by simp [hhn, hhm])
  have HSL := Lib.hid (fun w' => segLast_m w' hs (A := As) (c' := cs) (sz := ((segB s).length : Int)))
  have hlast : s.last = (t.first : Int) - 1 := by unfold Sg.last; omega
  have htf : (t.first : Int) ≤ 9007199254740992 := by have := ht.2; omega
  have hwr : IntKind.i64.wrap ((t.first : Int) - 1 + 1) = (t.first : Int) := by simp [IntKind.wrap, IntKind.signed, IntKind.bits]; omega
  rw [hlast] at HSL
  have HCL := Lib.hid (fun (w' : World) (A Y : List Asn) (h' : St W w' (A ++ (lgM p dp (H ++ [(s, Value.slice As s.L.length cs)]) 0 g off c ++ Y))) => show w'.cell? ⟨p, 0, none⟩ = some (.pointer (some ⟨dp, 0, none⟩)) ∧ w'.cell? ⟨p, 1, none⟩ = some (.string (bstr nLog)) ∧ w'.cell? ⟨p, 3, none⟩ = some (.slice (some ⟨g, off, none⟩) hm c) ∧ w'.frozen? ⟨p, 3, none⟩ = false ∧
      w'.cell? ⟨g, off + hn * 4, none⟩ = some (.int .i64 s.n) ∧ w'.cell? ⟨g, off + hn * 4 + 1, none⟩ = some (.int .i64 s.first) ∧ w'.cell? ⟨g, off + hn * 4 + 2, none⟩ = some (.slice As s.L.length cs) ∧ w'.cell? ⟨g, off + hn * 4 + 3, none⟩ = some (.int .i64 (segB s).length) from by
    have h1 := lgM.front A h'
    obtain ⟨c0, c1, c2, c3, c4⟩ := lgM.cells h1
    rw [HHN.out] at c3
    have hi : (H ++ [(s, Value.slice As s.L.length cs)])[hn]? = some (s, Value.slice As s.L.length cs) := by rw [← hhn]; simp
    exact ⟨c0, c1, c3, (aBlk.get h1).frozen 3, lgM.segQ h1 hi⟩)
  have hcl := lgM.len (lgM.front [_] h)
  rw [HHN.out] at hcl
  obtain ⟨hc1, hc2⟩ := hcl
  rw [hhn] at hgl
  have r1 : IntKind.i64.wrap ((hm : Int) - 1) = (hn : Int) := wrapPred hhm (by omega)
  have r2 : (hn : Int) < (hm : Int) := by omega
  have r3 : (0 : Int) < (hm : Int) := by omega
  have r5 : hn < hm := by omega
  obtain ⟨r7, g64, g63⟩ := le63 hhm hgl
  have H0 := Lib.hid h
  obtain ⟨m0, m1, m3, f3, s0, s1, s2, s3⟩ := HCL.out _ [_] _ h
  obtain ⟨l, hl⟩ : ∃ l, t.L.length = l := ⟨_, rfl⟩
  have HL := Lib.hid hl
  clear h hT hbs hun hget hfm hL hbl2 hl hw hlast hnx hhn hhm
  go_enter Tryz.func24, Tryz.ntmps24
  go_wp2_with fail
  go_region_held3 (fun w' => w'.cell? ⟨p, 0, none⟩ = some (.pointer (some ⟨dp, 0, none⟩)) ∧ w'.cell? ⟨p, 1, none⟩ = some (.string (bstr nLog))) (first | assumption | (refine ⟨?_, ?_⟩ <;> assumption)) (first
      | (go_at_call 31; (with_reducible refine (HFI.out _ (H0.out.later (Below.refl _ _).drew).b).mono ?_); rintro e w1 ⟨rfl, hb⟩; have H1 := Lib.hid ((H0.out.later (Below.refl _ _).drew).later hb); clear hb m0 m1 m3 f3 s0 s1 s2 s3; obtain ⟨m0, m1, m3, f3, s0, s1, s2, s3⟩ := HCL.out _ [_] _ H1.out)
      | (go_at_call 46; (with_reducible refine (HGE.out _ _ H1.out).mono ?_); rintro e w2 ⟨vb, rfl, h'⟩; obtain ⟨Av, cv, hv⟩ := h'.bySlice; rw [HBL2.out] at hv; subst hv; have H2 := Lib.hid h'; clear h' m0 m1 m3 f3 s0 s1 s2 s3; obtain ⟨m0, m1, m3, f3, s0, s1, s2, s3⟩ := HCL.out _ [_, _] _ H2.out))
  go_wp2_with (first
      | (go_at_call 47; (with_reducible refine (HRD.out _ _ ((show St W w2 (aBy _ bs :: _) from H2.out).byBs (by have := HBL.out; unfold big; omega))).mono ?_); rintro e w3 ⟨vL, rfl, hS⟩; have h3 := H2.out.onto hS; obtain ⟨AL, cL, hv⟩ := aPl.slice h3; rw [HL.out] at hv; subst hv; have h4 := aBlk.new h3 67 #[.int .i64 t.n, .int .i64 (t.first : Int), .slice AL l cL, .int .i64 (sz : Int)]; have H4 := Lib.hid h4.rot4; clear hS h3 m0 m1 m3 f3 s0 s1 s2 s3; obtain ⟨m0, m1, m3, f3, s0, s1, s2, s3⟩ := HCL.out _ [_, _, _, _] _ H4.out; have q0 := (aBlk.get h4).cell 0; have q1 := (aBlk.get h4).cell 1; have q2 := (aBlk.get h4).cell 2; have q3 := (aBlk.get h4).cell 3; simp only [List.getElem?_toArray, List.getElem?_cons_zero] at q0; simp only [List.getElem?_toArray, List.getElem?_cons_zero, List.getElem?_cons_succ] at q1 q2 q3; clear h4))
  obtain ⟨w4, hw4⟩ : ∃ w4, w3.alloc (.cells #[.int .i64 t.n, .int .i64 (t.first : Int), .slice AL l cL, .int .i64 (sz : Int)] 67) = w4 := ⟨_, rfl⟩
  rw [hw4] at H4 q0 q1 q2 q3 m0 m1 m3 f3 s0 s1 s2 s3 ⊢
  obtain ⟨qb, hqb⟩ : ∃ qb, w3.heap.size = qb := ⟨_, rfl⟩
  rw [hqb] at H4 q0 q1 q2 q3 ⊢
  have HCQ := Lib.hid (fun (w' : World) (D : Asn) (Y : List Asn) (h' : St W w' (D :: aBlk qb 67 #[.int .i64 t.n, .int .i64 (t.first : Int), .slice AL l cL, .int .i64 (sz : Int)] :: Y)) => show w'.cell? ⟨qb, 0, none⟩ = some (.int .i64 t.n) ∧ w'.cell? ⟨qb, 1, none⟩ = some (.int .i64 (t.first : Int)) ∧ w'.cell? ⟨qb, 2, none⟩ = some (.slice AL l cL) ∧ w'.cell? ⟨qb, 3, none⟩ = some (.int .i64 (sz : Int)) from by
    have hb := aBlk.get h'.swap
    have q0 := hb.cell 0
    have q1 := hb.cell 1
    have q2 := hb.cell 2
    have q3 := hb.cell 3
    simp at q0 q1 q2 q3
    exact ⟨q0, q1, q2, q3⟩)
  clear hw4 hqb
  go_region_held3 (fun w' => w'.cell? ⟨p, 3, none⟩ = some (.slice (some ⟨g, off, none⟩) hm c) ∧ w'.cell? ⟨g, off + hn * 4, none⟩ = some (.int .i64 s.n) ∧ w'.cell? ⟨g, off + hn * 4 + 1, none⟩ = some (.int .i64 s.first) ∧ w'.cell? ⟨g, off + hn * 4 + 2, none⟩ = some (.slice As s.L.length cs) ∧ w'.cell? ⟨g, off + hn * 4 + 3, none⟩ = some (.int .i64 (segB s).length)) (first | assumption | (refine ⟨?_, ?_, ?_, ?_, ?_⟩ <;> assumption)) (first
      | (go_at_call 32; (with_reducible refine (HSL.out _).mono ?_); rintro e w5 ⟨rfl, hb⟩; have H5 := Lib.hid ((H4.out.later (Below.refl _ _).drew).later hb); clear hb m0 m1 m3 f3 s0 s1 s2 s3 q0 q1 q2 q3; obtain ⟨m0, m1, m3, f3, s0, s1, s2, s3⟩ := HCL.out _ [_, _, _, _] _ H5.out; obtain ⟨q0, q1, q2, q3⟩ := HCQ.out _ _ _ H5.out))
  go_wp2_with fail
  have o4 : ∀ x ∈ [Value.int .i64 t.n, .int .i64 (t.first : Int), .slice AL l cL, .int .i64 (sz : Int)], x.oneCell' = true := by simp [Value.oneCell']
  have HA := Lib.hid (H5.out.later (B.alloc' _ (.cells #[.int .i64 t.n, .int .i64 (t.first : Int), .slice AL l cL, .int .i64 (sz : Int)] 67)))
  obtain ⟨ma0, ma1, ma3, maf, mar⟩ := HCL.out _ [_, _, _, _] _ HA.out
  have HOF := Lib.hid (fun (w' : World) (A Y : List Asn) (h' : St W w' (A ++ (lgM p dp (H ++ [(s, Value.slice As s.L.length cs)]) 0 g off c ++ Y))) => lgM.offG A HHN.out h')
  have HK := Lib.hid (fun (w' : World) (g7 o7 c7 : Nat) (v0 : Value) (h' : St W w' (aOff 67 4 g7 o7 (hm + 1) c7 (segsV (H ++ [(s, Value.slice As s.L.length cs)]) ++ [.int .i64 t.n, .int .i64 (t.first : Int), .slice AL l cL, .int .i64 (sz : Int)]) :: aBlk p 54 (logC dp 0 v0) :: (plsL (H ++ [(s, Value.slice As s.L.length cs)]) ++ ([aPl (.slice AL l cL) t.L, aDisk dp d, aBlk qb 67 #[.int .i64 t.n, .int .i64 (t.first : Int), .slice AL l cL, .int .i64 (sz : Int)], aBy (.slice Av sz cv) bs] ++ X)))) =>
    (show St W (w'.setCell ⟨p, 3, none⟩ (.slice (some ⟨g7, o7, none⟩) (hm + 1) c7)) (lgM p dp (H ++ [(s, Value.slice As s.L.length cs)] ++ [(t, Value.slice AL l cL)]) 0 g7 o7 c7 ++ (aDisk dp d :: aBlk qb 67 #[.int .i64 t.n, .int .i64 (t.first : Int), .slice AL l cL, .int .i64 (sz : Int)] :: aBy (.slice Av sz cv) bs :: X)) from
      lgM.snocM HHN.out HSZ.out h'))
  go_region_law (first
    | (refine step_append_Off rfl (.tmp 175) (.tmp 177) 52 rfl Tryz.underlying52 infoSeg rfl (by decide) rfl rfl (HOF.out _ [_, _, _, _] _ (((H5.out.later (Below.refl _ _).drew).later (B.alloc' _ _)).rot3)) (Rd.four _ _ _ _ _ _) o4 g63 g64 ?_; intro g7 o7 c7 w7 hS; have H8 := Lib.hid (HK.out _ _ _ _ _ hS); have k73 := (aBlk.get hS.swap).cell 3; have f73 := (aBlk.get hS.swap).frozen 3; simp [logC] at k73; clear hS))
  all_goals
    clear m0 m1 m3 f3 s0 s1 s2 s3 q0 q1 q2 q3 k73 f73 ma0 ma1 ma3 maf mar
    obtain ⟨m0, m1, _, m3, _⟩ := lgM.cells H8.out
    go_wp2_with fail
    go_ret
    exact ⟨_, g7, o7, c7, rfl, (lgM.back [_, _, _] H8.out).drop2.drop2⟩
set_option maxRecDepth 20000 in
set_option maxHeartbeats 16000000 in
theorem reads_next_whole (hT : TabW W) (ht : t.small) (h1 : 1 ≤ t.first) (hL : ∀ b ∈ t.L, b.length ≤ 524288) (hbs : bs = segB t ++ rest) (hun : unframeF rest = none) (hbl : bs.length ≤ 4194304) (hget : getF d (fileN t.n) = (bs, 0)) (hw : rest = []) (hsy : syncF d (fileN t.n) = (0, d')) (hs : s.small) (hnx : t.first = s.first + s.L.length) (hgl : H.length + 2 ≤ 1099511627776)
    (h : St W w (aDisk dp d :: (lgM p dp (H ++ [(s, v)]) 0 g off c ++ X))) :
    Calls Tryz.prog 24 #[.pointer (some ⟨p, 0, none⟩), .int .i64 (t.n : Int), .bool true] w fun e w' => ∃ (vL : Value) (g' off' c' : Nat), e = .returned (.int .i64 0) ∧ St W w' (aDisk dp d' :: (lgM p dp ((H ++ [(s, v)]) ++ [(t, vL)]) 0 g' off' c' ++ X)) := by
  have hfm := fileN_max ht.1
  have HFI := Lib.hid (fun w' (hb : B W w') => file_n (hT.later hb) (n := t.n) (by have := ht.1; omega))
  have HGE := Lib.hid (fun (w' : World) (Y : List Asn) (h' : St W w' (aDisk dp d :: Y)) => show Calls Tryz.prog 46 #[.pointer (some ⟨dp, 0, none⟩), .string (bstr (fileN t.n))] w' fun e w' => ∃ v, e = .returned (.tuple #[v, .int .i64 0]) ∧ St W w' (aBy v bs :: aDisk dp d :: Y) from by
    have := get_c h' hfm
    rw [hget] at this
    exact this)
  have HRD := Lib.hid (fun (w' : World) (v : Value) (hv : Bs w' v bs) => read_t ht h1 hL hbs hun hbl hv)
  have HBL := Lib.hid hbl
  obtain ⟨sz, hsz⟩ : ∃ sz, (segB t).length = sz := ⟨_, rfl⟩
  have HSZ := Lib.hid hsz
  obtain ⟨bl, hbl2⟩ : ∃ bl, bs.length = bl := ⟨_, rfl⟩
  have HBL2 := Lib.hid hbl2
  have hszb : sz = bl := by rw [← hbl2, hbs, hw, List.append_nil, hsz]
  subst hszb
  have HSY := Lib.hid (fun (w' : World) (Y : List Asn) (h' : St W w' (aDisk dp d :: Y)) => show Calls Tryz.prog 33 #[.pointer (some ⟨dp, 0, none⟩), .string (bstr (fileN t.n))] w' fun e w' => e = .returned (.int .i64 0) ∧ St W w' (aDisk dp d' :: Y) from by
    have := sync_c h' hfm
    rw [hsy] at this
    exact this)
  rw [hsz] at HRD
  obtain ⟨As, cs, hv⟩ := lgM.slice (lgM.front [_] h) (i := H.length) (x := (s, v)) (by simp)
  simp only at hv
  subst hv
  obtain ⟨hn, hhn⟩ : ∃ hn, H.length = hn := ⟨_, rfl⟩
  obtain ⟨hm, hhm⟩ : ∃ hm, hn + 1 = hm := ⟨_, rfl⟩
  have HHN := Lib.hid (show (H ++ [(s, Value.slice As s.L.length cs)]).length = hm by simp [hhn, hhm])
  have HSL := Lib.hid (fun w' => segLast_m w' hs (A := As) (c' := cs) (sz := ((segB s).length : Int)))
  have hlast : s.last = (t.first : Int) - 1 := by unfold Sg.last; omega
  have htf : (t.first : Int) ≤ 9007199254740992 := by have := ht.2; omega
  have hwr : IntKind.i64.wrap ((t.first : Int) - 1 + 1) = (t.first : Int) := by simp [IntKind.wrap, IntKind.signed, IntKind.bits]; omega
  rw [hlast] at HSL
  have HCL := Lib.hid (fun (w' : World) (A Y : List Asn) (h' : St W w' (A ++ (lgM p dp (H ++ [(s, Value.slice As s.L.length cs)]) 0 g off c ++ Y))) => show w'.cell? ⟨p, 0, none⟩ = some (.pointer (some ⟨dp, 0, none⟩)) ∧ w'.cell? ⟨p, 1, none⟩ = some (.string (bstr nLog)) ∧ w'.cell? ⟨p, 3, none⟩ = some (.slice (some ⟨g, off, none⟩) hm c) ∧ w'.frozen? ⟨p, 3, none⟩ = false ∧
      w'.cell? ⟨g, off + hn * 4, none⟩ = some (.int .i64 s.n) ∧ w'.cell? ⟨g, off + hn * 4 + 1, none⟩ = some (.int .i64 s.first) ∧ w'.cell? ⟨g, off + hn * 4 + 2, none⟩ = some (.slice As s.L.length cs) ∧ w'.cell? ⟨g, off + hn * 4 + 3, none⟩ = some (.int .i64 (segB s).length) from by
    have h1 := lgM.front A h'
    obtain ⟨c0, c1, c2, c3, c4⟩ := lgM.cells h1
    rw [HHN.out] at c3
    have hi : (H ++ [(s, Value.slice As s.L.length cs)])[hn]? = some (s, Value.slice As s.L.length cs) := by rw [← hhn]; simp
    exact ⟨c0, c1, c3, (aBlk.get h1).frozen 3, lgM.segQ h1 hi⟩)
  have hcl := lgM.len (lgM.front [_] h)
  rw [HHN.out] at hcl
  obtain ⟨hc1, hc2⟩ := hcl
  rw [hhn] at hgl
  have r1 : IntKind.i64.wrap ((hm : Int) - 1) = (hn : Int) := wrapPred hhm (by omega)
  have r2 : (hn : Int) < (hm : Int) := by omega
  have r3 : (0 : Int) < (hm : Int) := by omega
  have r5 : hn < hm := by omega
  obtain ⟨r7, g64, g63⟩ := le63 hhm hgl
  have H0 := Lib.hid h
  obtain ⟨m0, m1, m3, f3, s0, s1, s2, s3⟩ := HCL.out _ [_] _ h
  obtain ⟨l, hl⟩ : ∃ l, t.L.length = l := ⟨_, rfl⟩
  have HL := Lib.hid hl
  clear h hT hbs hun hget hfm hL hbl2 hl hw hsy hlast hnx hhn hhm
  go_enter Tryz.func24, Tryz.ntmps24
  go_wp2_with fail
  go_region_held3 (fun w' => w'.cell? ⟨p, 0, none⟩ = some (.pointer (some ⟨dp, 0, none⟩)) ∧ w'.cell? ⟨p, 1, none⟩ = some (.string (bstr nLog))) (first | assumption | (refine ⟨?_, ?_⟩ <;> assumption)) (first
      | (go_at_call 31; (with_reducible refine (HFI.out _ (H0.out.later (Below.refl _ _).drew).b).mono ?_); rintro e w1 ⟨rfl, hb⟩; have H1 := Lib.hid ((H0.out.later (Below.refl _ _).drew).later hb); clear hb m0 m1 m3 f3 s0 s1 s2 s3; obtain ⟨m0, m1, m3, f3, s0, s1, s2, s3⟩ := HCL.out _ [_] _ H1.out)
      | (go_at_call 46; (with_reducible refine (HGE.out _ _ H1.out).mono ?_); rintro e w2 ⟨vb, rfl, h'⟩; obtain ⟨Av, cv, hv⟩ := h'.bySlice; rw [HBL2.out] at hv; subst hv; have H2 := Lib.hid h'; clear h' m0 m1 m3 f3 s0 s1 s2 s3; obtain ⟨m0, m1, m3, f3, s0, s1, s2, s3⟩ := HCL.out _ [_, _] _ H2.out))
  go_wp2_with (first
      | (go_at_call 47; (with_reducible refine (HRD.out _ _ ((show St W w2 (aBy _ bs :: _) from H2.out).byBs (by have := HBL.out; unfold big; omega))).mono ?_); rintro e w3 ⟨vL, rfl, hS⟩; have h3 := H2.out.onto hS; obtain ⟨AL, cL, hv⟩ := aPl.slice h3; rw [HL.out] at hv; subst hv; have h4 := aBlk.new h3 67 #[.int .i64 t.n, .int .i64 (t.first : Int), .slice AL l cL, .int .i64 (sz : Int)]; have H4 := Lib.hid h4.rot4; clear hS h3 m0 m1 m3 f3 s0 s1 s2 s3; obtain ⟨m0, m1, m3, f3, s0, s1, s2, s3⟩ := HCL.out _ [_, _, _, _] _ H4.out; have q0 := (aBlk.get h4).cell 0; have q1 := (aBlk.get h4).cell 1; have q2 := (aBlk.get h4).cell 2; have q3 := (aBlk.get h4).cell 3; simp only [List.getElem?_toArray, List.getElem?_cons_zero] at q0; simp only [List.getElem?_toArray, List.getElem?_cons_zero, List.getElem?_cons_succ] at q1 q2 q3; clear h4))
  obtain ⟨w4, hw4⟩ : ∃ w4, w3.alloc (.cells #[.int .i64 t.n, .int .i64 (t.first : Int), .slice AL l cL, .int .i64 (sz : Int)] 67) = w4 := ⟨_, rfl⟩
  rw [hw4] at H4 q0 q1 q2 q3 m0 m1 m3 f3 s0 s1 s2 s3 ⊢
  obtain ⟨qb, hqb⟩ : ∃ qb, w3.heap.size = qb := ⟨_, rfl⟩
  rw [hqb] at H4 q0 q1 q2 q3 ⊢
  have HCQ := Lib.hid (fun (w' : World) (D : Asn) (Y : List Asn) (h' : St W w' (D :: aBlk qb 67 #[.int .i64 t.n, .int .i64 (t.first : Int), .slice AL l cL, .int .i64 (sz : Int)] :: Y)) => show w'.cell? ⟨qb, 0, none⟩ = some (.int .i64 t.n) ∧ w'.cell? ⟨qb, 1, none⟩ = some (.int .i64 (t.first : Int)) ∧ w'.cell? ⟨qb, 2, none⟩ = some (.slice AL l cL) ∧ w'.cell? ⟨qb, 3, none⟩ = some (.int .i64 (sz : Int)) from by
    have hb := aBlk.get h'.swap
    have q0 := hb.cell 0
    have q1 := hb.cell 1
    have q2 := hb.cell 2
    have q3 := hb.cell 3
    simp at q0 q1 q2 q3
    exact ⟨q0, q1, q2, q3⟩)
  clear hw4 hqb
  go_region_held3 (fun w' => w'.cell? ⟨p, 3, none⟩ = some (.slice (some ⟨g, off, none⟩) hm c) ∧ w'.cell? ⟨g, off + hn * 4, none⟩ = some (.int .i64 s.n) ∧ w'.cell? ⟨g, off + hn * 4 + 1, none⟩ = some (.int .i64 s.first) ∧ w'.cell? ⟨g, off + hn * 4 + 2, none⟩ = some (.slice As s.L.length cs) ∧ w'.cell? ⟨g, off + hn * 4 + 3, none⟩ = some (.int .i64 (segB s).length)) (first | assumption | (refine ⟨?_, ?_, ?_, ?_, ?_⟩ <;> assumption)) (first
      | (go_at_call 32; (with_reducible refine (HSL.out _).mono ?_); rintro e w5 ⟨rfl, hb⟩; have H5 := Lib.hid ((H4.out.later (Below.refl _ _).drew).later hb); clear hb m0 m1 m3 f3 s0 s1 s2 s3 q0 q1 q2 q3; obtain ⟨m0, m1, m3, f3, s0, s1, s2, s3⟩ := HCL.out _ [_, _, _, _] _ H5.out; obtain ⟨q0, q1, q2, q3⟩ := HCQ.out _ _ _ H5.out))
  go_wp2_with fail
  have o4 : ∀ x ∈ [Value.int .i64 t.n, .int .i64 (t.first : Int), .slice AL l cL, .int .i64 (sz : Int)], x.oneCell' = true := by simp [Value.oneCell']
  have HA := Lib.hid (H5.out.later (B.alloc' _ (.cells #[.int .i64 t.n, .int .i64 (t.first : Int), .slice AL l cL, .int .i64 (sz : Int)] 67)))
  obtain ⟨ma0, ma1, ma3, maf, mar⟩ := HCL.out _ [_, _, _, _] _ HA.out
  have HOF := Lib.hid (fun (w' : World) (A Y : List Asn) (h' : St W w' (A ++ (lgM p dp (H ++ [(s, Value.slice As s.L.length cs)]) 0 g off c ++ Y))) => lgM.offG A HHN.out h')
  have HK := Lib.hid (fun (w' : World) (g7 o7 c7 : Nat) (v0 : Value) (h' : St W w' (aOff 67 4 g7 o7 (hm + 1) c7 (segsV (H ++ [(s, Value.slice As s.L.length cs)]) ++ [.int .i64 t.n, .int .i64 (t.first : Int), .slice AL l cL, .int .i64 (sz : Int)]) :: aBlk p 54 (logC dp 0 v0) :: (plsL (H ++ [(s, Value.slice As s.L.length cs)]) ++ ([aPl (.slice AL l cL) t.L, aDisk dp d, aBlk qb 67 #[.int .i64 t.n, .int .i64 (t.first : Int), .slice AL l cL, .int .i64 (sz : Int)], aBy (.slice Av sz cv) bs] ++ X)))) =>
    (show St W (w'.setCell ⟨p, 3, none⟩ (.slice (some ⟨g7, o7, none⟩) (hm + 1) c7)) (lgM p dp (H ++ [(s, Value.slice As s.L.length cs)] ++ [(t, Value.slice AL l cL)]) 0 g7 o7 c7 ++ (aDisk dp d :: aBlk qb 67 #[.int .i64 t.n, .int .i64 (t.first : Int), .slice AL l cL, .int .i64 (sz : Int)] :: aBy (.slice Av sz cv) bs :: X)) from
      lgM.snocM HHN.out HSZ.out h'))
  go_region_law (first
    | (refine step_append_Off rfl (.tmp 175) (.tmp 177) 52 rfl Tryz.underlying52 infoSeg rfl (by decide) rfl rfl (HOF.out _ [_, _, _, _] _ (((H5.out.later (Below.refl _ _).drew).later (B.alloc' _ _)).rot3)) (Rd.four _ _ _ _ _ _) o4 g63 g64 ?_; intro g7 o7 c7 w7 hS; have H8 := Lib.hid (HK.out _ _ _ _ _ hS); have k73 := (aBlk.get hS.swap).cell 3; have f73 := (aBlk.get hS.swap).frozen 3; simp [logC] at k73; clear hS))
  all_goals
    clear m0 m1 m3 f3 s0 s1 s2 s3 q0 q1 q2 q3 k73 f73 ma0 ma1 ma3 maf mar
    obtain ⟨m0, m1, _, m3, _⟩ := lgM.cells H8.out
    go_wp2_with fail
    go_region_held3 (fun w' => w'.cell? ⟨p, 0, none⟩ = some (.pointer (some ⟨dp, 0, none⟩)) ∧ w'.cell? ⟨p, 1, none⟩ = some (.string (bstr nLog))) (first | assumption | (refine ⟨?_, ?_⟩ <;> assumption)) (first
      | (go_at_call 31; (with_reducible refine (HFI.out _ (H8.out.later (Below.refl _ _).drew).b).mono ?_); rintro e w8 ⟨rfl, hb⟩; have H9 := Lib.hid ((H8.out.later (Below.refl _ _).drew).later hb); clear hb m0 m1 m3; obtain ⟨m0, m1, _, m3, _⟩ := lgM.cells H9.out)
      | (go_at_call 33; (with_reducible refine (HSY.out _ _ H9.out.deep).mono ?_); rintro e w9 ⟨rfl, h'⟩; have H10 := Lib.hid (lgM.front [_] h'); clear h' m0 m1 m3; obtain ⟨m0, m1, _, m3, _⟩ := lgM.cells H10.out))
    all_goals
      go_wp2_with fail
      go_ret
      exact ⟨_, g7, o7, c7, rfl, (lgM.back [_, _, _] H10.out).drop2.drop2⟩
set_option maxRecDepth 20000 in
set_option maxHeartbeats 16000000 in
theorem reads_next_torn (hT : TabW W) (ht : t.small) (h1 : 1 ≤ t.first) (hL : ∀ b ∈ t.L, b.length ≤ 524288) (hbs : bs = segB t ++ rest) (hun : unframeF rest = none) (hbl : bs.length ≤ 4194304) (hget : getF d (fileN t.n) = (bs, 0)) (hne : rest ≠ []) (htr : truncF d (fileN t.n) ((segB t).length : Int) = (0, d1)) (hsy : syncF d1 (fileN t.n) = (0, d')) (hs : s.small) (hnx : t.first = s.first + s.L.length) (hgl : H.length + 2 ≤ 1099511627776)
    (h : St W w (aDisk dp d :: (lgM p dp (H ++ [(s, v)]) 0 g off c ++ X))) :
    Calls Tryz.prog 24 #[.pointer (some ⟨p, 0, none⟩), .int .i64 (t.n : Int), .bool true] w fun e w' => ∃ (vL : Value) (g' off' c' : Nat), e = .returned (.int .i64 0) ∧ St W w' (aDisk dp d' :: (lgM p dp ((H ++ [(s, v)]) ++ [(t, vL)]) 0 g' off' c' ++ X)) := by
  have hfm := fileN_max ht.1
  have HFI := Lib.hid (fun w' (hb : B W w') => file_n (hT.later hb) (n := t.n) (by have := ht.1; omega))
  have HGE := Lib.hid (fun (w' : World) (Y : List Asn) (h' : St W w' (aDisk dp d :: Y)) => show Calls Tryz.prog 46 #[.pointer (some ⟨dp, 0, none⟩), .string (bstr (fileN t.n))] w' fun e w' => ∃ v, e = .returned (.tuple #[v, .int .i64 0]) ∧ St W w' (aBy v bs :: aDisk dp d :: Y) from by
    have := get_c h' hfm
    rw [hget] at this
    exact this)
  have HRD := Lib.hid (fun (w' : World) (v : Value) (hv : Bs w' v bs) => read_t ht h1 hL hbs hun hbl hv)
  have HBL := Lib.hid hbl
  obtain ⟨sz, hsz⟩ : ∃ sz, (segB t).length = sz := ⟨_, rfl⟩
  have HSZ := Lib.hid hsz
  obtain ⟨bl, hbl2⟩ : ∃ bl, bs.length = bl := ⟨_, rfl⟩
  have HBL2 := Lib.hid hbl2
  have hszb : (sz : Int) < (bl : Int) := by
    have h5 : 0 < rest.length := List.length_pos_iff.2 hne
    have h6 := hbl2
    rw [hbs, List.length_append, hsz] at h6
    omega
  have hszm : sz ≤ 4194304 := by omega
  have HTR := Lib.hid (fun (w' : World) (Y : List Asn) (h' : St W w' (aDisk dp d :: Y)) => show Calls Tryz.prog 48 #[.pointer (some ⟨dp, 0, none⟩), .string (bstr (fileN t.n)), .int .i64 (sz : Int)] w' fun e w' => e = .returned (.int .i64 0) ∧ St W w' (aDisk dp d1 :: Y) from by
    have := trunc_c (k := (sz : Int)) h' hfm (by omega)
    rw [← hsz, htr, hsz] at this
    exact this)
  have HSY := Lib.hid (fun (w' : World) (Y : List Asn) (h' : St W w' (aDisk dp d1 :: Y)) => show Calls Tryz.prog 33 #[.pointer (some ⟨dp, 0, none⟩), .string (bstr (fileN t.n))] w' fun e w' => e = .returned (.int .i64 0) ∧ St W w' (aDisk dp d' :: Y) from by
    have := sync_c h' hfm
    rw [hsy] at this
    exact this)
  rw [hsz] at HRD
  obtain ⟨As, cs, hv⟩ := lgM.slice (lgM.front [_] h) (i := H.length) (x := (s, v)) (by simp)
  simp only at hv
  subst hv
  obtain ⟨hn, hhn⟩ : ∃ hn, H.length = hn := ⟨_, rfl⟩
  obtain ⟨hm, hhm⟩ : ∃ hm, hn + 1 = hm := ⟨_, rfl⟩
  have HHN := Lib.hid (show (H ++ [(s, Value.slice As s.L.length cs)]).length = hm by simp [hhn, hhm])
  have HSL := Lib.hid (fun w' => segLast_m w' hs (A := As) (c' := cs) (sz := ((segB s).length : Int)))
  have hlast : s.last = (t.first : Int) - 1 := by unfold Sg.last; omega
  have htf : (t.first : Int) ≤ 9007199254740992 := by have := ht.2; omega
  have hwr : IntKind.i64.wrap ((t.first : Int) - 1 + 1) = (t.first : Int) := by simp [IntKind.wrap, IntKind.signed, IntKind.bits]; omega
  rw [hlast] at HSL
  have HCL := Lib.hid (fun (w' : World) (A Y : List Asn) (h' : St W w' (A ++ (lgM p dp (H ++ [(s, Value.slice As s.L.length cs)]) 0 g off c ++ Y))) => show w'.cell? ⟨p, 0, none⟩ = some (.pointer (some ⟨dp, 0, none⟩)) ∧ w'.cell? ⟨p, 1, none⟩ = some (.string (bstr nLog)) ∧ w'.cell? ⟨p, 3, none⟩ = some (.slice (some ⟨g, off, none⟩) hm c) ∧ w'.frozen? ⟨p, 3, none⟩ = false ∧
      w'.cell? ⟨g, off + hn * 4, none⟩ = some (.int .i64 s.n) ∧ w'.cell? ⟨g, off + hn * 4 + 1, none⟩ = some (.int .i64 s.first) ∧ w'.cell? ⟨g, off + hn * 4 + 2, none⟩ = some (.slice As s.L.length cs) ∧ w'.cell? ⟨g, off + hn * 4 + 3, none⟩ = some (.int .i64 (segB s).length) from by
    have h1 := lgM.front A h'
    obtain ⟨c0, c1, c2, c3, c4⟩ := lgM.cells h1
    rw [HHN.out] at c3
    have hi : (H ++ [(s, Value.slice As s.L.length cs)])[hn]? = some (s, Value.slice As s.L.length cs) := by rw [← hhn]; simp
    exact ⟨c0, c1, c3, (aBlk.get h1).frozen 3, lgM.segQ h1 hi⟩)
  have hcl := lgM.len (lgM.front [_] h)
  rw [HHN.out] at hcl
  obtain ⟨hc1, hc2⟩ := hcl
  rw [hhn] at hgl
  have r1 : IntKind.i64.wrap ((hm : Int) - 1) = (hn : Int) := wrapPred hhm (by omega)
  have r2 : (hn : Int) < (hm : Int) := by omega
  have r3 : (0 : Int) < (hm : Int) := by omega
  have r5 : hn < hm := by omega
  obtain ⟨r7, g64, g63⟩ := le63 hhm hgl
  have H0 := Lib.hid h
  obtain ⟨m0, m1, m3, f3, s0, s1, s2, s3⟩ := HCL.out _ [_] _ h
  obtain ⟨l, hl⟩ : ∃ l, t.L.length = l := ⟨_, rfl⟩
  have HL := Lib.hid hl
  clear h hT hbs hun hget hfm hL hbl2 hl hne htr hsy hlast hnx hhn hhm
  go_enter Tryz.func24, Tryz.ntmps24
  go_wp2_with fail
  go_region_held3 (fun w' => w'.cell? ⟨p, 0, none⟩ = some (.pointer (some ⟨dp, 0, none⟩)) ∧ w'.cell? ⟨p, 1, none⟩ = some (.string (bstr nLog))) (first | assumption | (refine ⟨?_, ?_⟩ <;> assumption)) (first
      | (go_at_call 31; (with_reducible refine (HFI.out _ (H0.out.later (Below.refl _ _).drew).b).mono ?_); rintro e w1 ⟨rfl, hb⟩; have H1 := Lib.hid ((H0.out.later (Below.refl _ _).drew).later hb); clear hb m0 m1 m3 f3 s0 s1 s2 s3; obtain ⟨m0, m1, m3, f3, s0, s1, s2, s3⟩ := HCL.out _ [_] _ H1.out)
      | (go_at_call 46; (with_reducible refine (HGE.out _ _ H1.out).mono ?_); rintro e w2 ⟨vb, rfl, h'⟩; obtain ⟨Av, cv, hv⟩ := h'.bySlice; rw [HBL2.out] at hv; subst hv; have H2 := Lib.hid h'; clear h' m0 m1 m3 f3 s0 s1 s2 s3; obtain ⟨m0, m1, m3, f3, s0, s1, s2, s3⟩ := HCL.out _ [_, _] _ H2.out))
  go_wp2_with (first
      | (go_at_call 47; (with_reducible refine (HRD.out _ _ ((show St W w2 (aBy _ bs :: _) from H2.out).byBs (by have := HBL.out; unfold big; omega))).mono ?_); rintro e w3 ⟨vL, rfl, hS⟩; have h3 := H2.out.onto hS; obtain ⟨AL, cL, hv⟩ := aPl.slice h3; rw [HL.out] at hv; subst hv; have h4 := aBlk.new h3 67 #[.int .i64 t.n, .int .i64 (t.first : Int), .slice AL l cL, .int .i64 (sz : Int)]; have H4 := Lib.hid h4.rot4; clear hS h3 m0 m1 m3 f3 s0 s1 s2 s3; obtain ⟨m0, m1, m3, f3, s0, s1, s2, s3⟩ := HCL.out _ [_, _, _, _] _ H4.out; have q0 := (aBlk.get h4).cell 0; have q1 := (aBlk.get h4).cell 1; have q2 := (aBlk.get h4).cell 2; have q3 := (aBlk.get h4).cell 3; simp only [List.getElem?_toArray, List.getElem?_cons_zero] at q0; simp only [List.getElem?_toArray, List.getElem?_cons_zero, List.getElem?_cons_succ] at q1 q2 q3; clear h4))
  obtain ⟨w4, hw4⟩ : ∃ w4, w3.alloc (.cells #[.int .i64 t.n, .int .i64 (t.first : Int), .slice AL l cL, .int .i64 (sz : Int)] 67) = w4 := ⟨_, rfl⟩
  rw [hw4] at H4 q0 q1 q2 q3 m0 m1 m3 f3 s0 s1 s2 s3 ⊢
  obtain ⟨qb, hqb⟩ : ∃ qb, w3.heap.size = qb := ⟨_, rfl⟩
  rw [hqb] at H4 q0 q1 q2 q3 ⊢
  have HCQ := Lib.hid (fun (w' : World) (D : Asn) (Y : List Asn) (h' : St W w' (D :: aBlk qb 67 #[.int .i64 t.n, .int .i64 (t.first : Int), .slice AL l cL, .int .i64 (sz : Int)] :: Y)) => show w'.cell? ⟨qb, 0, none⟩ = some (.int .i64 t.n) ∧ w'.cell? ⟨qb, 1, none⟩ = some (.int .i64 (t.first : Int)) ∧ w'.cell? ⟨qb, 2, none⟩ = some (.slice AL l cL) ∧ w'.cell? ⟨qb, 3, none⟩ = some (.int .i64 (sz : Int)) from by
    have hb := aBlk.get h'.swap
    have q0 := hb.cell 0
    have q1 := hb.cell 1
    have q2 := hb.cell 2
    have q3 := hb.cell 3
    simp at q0 q1 q2 q3
    exact ⟨q0, q1, q2, q3⟩)
  clear hw4 hqb
  go_region_held3 (fun w' => w'.cell? ⟨p, 3, none⟩ = some (.slice (some ⟨g, off, none⟩) hm c) ∧ w'.cell? ⟨g, off + hn * 4, none⟩ = some (.int .i64 s.n) ∧ w'.cell? ⟨g, off + hn * 4 + 1, none⟩ = some (.int .i64 s.first) ∧ w'.cell? ⟨g, off + hn * 4 + 2, none⟩ = some (.slice As s.L.length cs) ∧ w'.cell? ⟨g, off + hn * 4 + 3, none⟩ = some (.int .i64 (segB s).length)) (first | assumption | (refine ⟨?_, ?_, ?_, ?_, ?_⟩ <;> assumption)) (first
      | (go_at_call 32; (with_reducible refine (HSL.out _).mono ?_); rintro e w5 ⟨rfl, hb⟩; have H5 := Lib.hid ((H4.out.later (Below.refl _ _).drew).later hb); clear hb m0 m1 m3 f3 s0 s1 s2 s3 q0 q1 q2 q3; obtain ⟨m0, m1, m3, f3, s0, s1, s2, s3⟩ := HCL.out _ [_, _, _, _] _ H5.out; obtain ⟨q0, q1, q2, q3⟩ := HCQ.out _ _ _ H5.out))
  go_wp2_with fail
  go_region_held3 (fun w' => w'.cell? ⟨p, 0, none⟩ = some (.pointer (some ⟨dp, 0, none⟩)) ∧ w'.cell? ⟨p, 1, none⟩ = some (.string (bstr nLog)) ∧ w'.cell? ⟨qb, 3, none⟩ = some (.int .i64 (sz : Int))) (first | assumption | (refine ⟨?_, ?_, ?_⟩ <;> assumption)) (first
      | (go_at_call 31; (with_reducible refine (HFI.out _ (H5.out.later (Below.refl _ _).drew).b).mono ?_); rintro e w6 ⟨rfl, hb⟩; have H6 := Lib.hid ((H5.out.later (Below.refl _ _).drew).later hb); clear hb m0 m1 m3 f3 s0 s1 s2 s3 q0 q1 q2 q3; obtain ⟨m0, m1, m3, f3, s0, s1, s2, s3⟩ := HCL.out _ [_, _, _, _] _ H6.out; obtain ⟨q0, q1, q2, q3⟩ := HCQ.out _ _ _ H6.out)
      | (go_at_call 48; (with_reducible refine (HTR.out _ _ H6.out).mono ?_); rintro e w7 ⟨rfl, h'⟩; have H7 := Lib.hid h'; clear h' m0 m1 m3 f3 s0 s1 s2 s3 q0 q1 q2 q3; obtain ⟨m0, m1, m3, f3, s0, s1, s2, s3⟩ := HCL.out _ [_, _, _, _] _ H7.out; obtain ⟨q0, q1, q2, q3⟩ := HCQ.out _ _ _ H7.out))
  all_goals
    go_wp2_with fail
    have o4 : ∀ x ∈ [Value.int .i64 t.n, .int .i64 (t.first : Int), .slice AL l cL, .int .i64 (sz : Int)], x.oneCell' = true := by simp [Value.oneCell']
    have HA := Lib.hid (H7.out.later (B.alloc' _ (.cells #[.int .i64 t.n, .int .i64 (t.first : Int), .slice AL l cL, .int .i64 (sz : Int)] 67)))
    obtain ⟨ma0, ma1, ma3, maf, mar⟩ := HCL.out _ [_, _, _, _] _ HA.out
    have HOF := Lib.hid (fun (w' : World) (A Y : List Asn) (h' : St W w' (A ++ (lgM p dp (H ++ [(s, Value.slice As s.L.length cs)]) 0 g off c ++ Y))) => lgM.offG A HHN.out h')
    have HK := Lib.hid (fun (w' : World) (g7 o7 c7 : Nat) (v0 : Value) (h' : St W w' (aOff 67 4 g7 o7 (hm + 1) c7 (segsV (H ++ [(s, Value.slice As s.L.length cs)]) ++ [.int .i64 t.n, .int .i64 (t.first : Int), .slice AL l cL, .int .i64 (sz : Int)]) :: aBlk p 54 (logC dp 0 v0) :: (plsL (H ++ [(s, Value.slice As s.L.length cs)]) ++ ([aPl (.slice AL l cL) t.L, aDisk dp d1, aBlk qb 67 #[.int .i64 t.n, .int .i64 (t.first : Int), .slice AL l cL, .int .i64 (sz : Int)], aBy (.slice Av bl cv) bs] ++ X)))) =>
      (show St W (w'.setCell ⟨p, 3, none⟩ (.slice (some ⟨g7, o7, none⟩) (hm + 1) c7)) (lgM p dp (H ++ [(s, Value.slice As s.L.length cs)] ++ [(t, Value.slice AL l cL)]) 0 g7 o7 c7 ++ (aDisk dp d1 :: aBlk qb 67 #[.int .i64 t.n, .int .i64 (t.first : Int), .slice AL l cL, .int .i64 (sz : Int)] :: aBy (.slice Av bl cv) bs :: X)) from
        lgM.snocM HHN.out HSZ.out h'))
    go_region_law (first
      | (refine step_append_Off rfl (.tmp 175) (.tmp 177) 52 rfl Tryz.underlying52 infoSeg rfl (by decide) rfl rfl (HOF.out _ [_, _, _, _] _ (((H7.out.later (Below.refl _ _).drew).later (B.alloc' _ _)).rot3)) (Rd.four _ _ _ _ _ _) o4 g63 g64 ?_; intro g7 o7 c7 w7 hS; have H8 := Lib.hid (HK.out _ _ _ _ _ hS); have k73 := (aBlk.get hS.swap).cell 3; have f73 := (aBlk.get hS.swap).frozen 3; simp [logC] at k73; clear hS))
    all_goals
      clear m0 m1 m3 f3 s0 s1 s2 s3 q0 q1 q2 q3 k73 f73 ma0 ma1 ma3 maf mar
      obtain ⟨m0, m1, _, m3, _⟩ := lgM.cells H8.out
      go_wp2_with fail
      go_region_held3 (fun w' => w'.cell? ⟨p, 0, none⟩ = some (.pointer (some ⟨dp, 0, none⟩)) ∧ w'.cell? ⟨p, 1, none⟩ = some (.string (bstr nLog))) (first | assumption | (refine ⟨?_, ?_⟩ <;> assumption)) (first
        | (go_at_call 31; (with_reducible refine (HFI.out _ (H8.out.later (Below.refl _ _).drew).b).mono ?_); rintro e w8 ⟨rfl, hb⟩; have H9 := Lib.hid ((H8.out.later (Below.refl _ _).drew).later hb); clear hb m0 m1 m3; obtain ⟨m0, m1, _, m3, _⟩ := lgM.cells H9.out)
        | (go_at_call 33; (with_reducible refine (HSY.out _ _ H9.out.deep).mono ?_); rintro e w9 ⟨rfl, h'⟩; have H10 := Lib.hid (lgM.front [_] h'); clear h' m0 m1 m3; obtain ⟨m0, m1, _, m3, _⟩ := lgM.cells H10.out))
      all_goals
        go_wp2_with fail
        go_ret
        exact ⟨_, g7, o7, c7, rfl, (lgM.back [_, _, _] H10.out).drop2.drop2⟩
end
end Go.Proofs.YtoikjgcggmemaaaGreatDoor

/- strconv.Atoi at a number's digits. -/
namespace Go.Proofs.YtoikjgcggmemaaaGreatDoor
open Go.RowKit Go.Deep
set_option linter.unusedVariables false

theorem decV_take {l : List UInt8} {q : Nat} (h : q < l.length) : decV (l.take (q + 1)) = decV (l.take q) * 10 + (l[q].toNat - 48) := by
  unfold decV
  rw [List.take_succ_eq_append_getElem h, List.foldl_append]
  rfl
theorem decF_le : ∀ (l : List UInt8) (a : Nat), a ≤ l.foldl (fun a c => a * 10 + (c.toNat - 48)) a
  | [], a => Nat.le_refl _
  | c :: l, a => by
    rw [List.foldl_cons]
    exact Nat.le_trans (by omega) (decF_le l _)
theorem decV_le (l : List UInt8) (q : Nat) : decV (l.take q) ≤ decV l := by
  conv => rhs; rw [← List.take_append_drop q l]
  unfold decV
  rw [List.foldl_append]
  exact decF_le _ _
theorem dec_ne (n : Nat) : 0 < (Lib.decDigits n).length := by
  rw [Lib.decDigits]
  split <;> simp
theorem dec_len16 {n : Nat} (hn : n ≤ 9007199254740992) : (Lib.decDigits n).length ≤ 17 := by
  have go : ∀ (k n : Nat), n < 10 ^ k → (Lib.decDigits n).length ≤ k + 1 := by
    intro k
    induction k with
    | zero => intro n hn; rw [Lib.decDigits, dif_pos (by omega)]; simp
    | succ k ih =>
      intro n hn
      rw [Lib.decDigits]
      split
      · simp
      · have := ih (n / 10) (by rw [Nat.pow_succ] at hn; omega)
        simp only [List.length_append, List.length_singleton]
        omega
  exact go 16 n (by have : (10 : Nat) ^ 16 = 10000000000000000 := rfl; omega)
set_option maxRecDepth 20000 in
set_option maxHeartbeats 2000000 in
theorem iatoi_n (w : World) {n : Nat} (hn : n ≤ 9007199254740992) : Calls Tryz.prog 56 #[.string (bstr (Lib.decDigits n))] w fun e w' => e = .returned (.tuple #[.int .i64 (n : Int), .nilIface]) ∧ B w w' := by
  have hrun := Lib.run_convert_string_bytes (P := Tryz.prog) w 9 32 5 (bstr (Lib.decDigits n)) Tryz.underlying9 Tryz.underlying32 Tryz.underlying5
  obtain ⟨l, hl⟩ : ∃ l, Lib.decDigits n = l := ⟨_, rfl⟩
  have hne := dec_ne n
  have hle := dec_len16 hn
  have HR := Lib.hid (dec_range n)
  have HV := Lib.hid (decV_dig n)
  rw [hl] at hrun hne hle HR HV ⊢
  have hsz := bstr_size l
  obtain ⟨S, hS⟩ : ∃ S, l.length = S := ⟨_, rfl⟩
  have HS := Lib.hid hS
  have HC := Lib.hid (fun (q : Nat) (hq : q < l.length) => (show (Lib.bytesWorld w 5 (bstr l)).cell? ⟨w.heap.size, q, none⟩ = some (.int .u8 (l[q].toNat : Int)) from by
    have := Lib.bytesWorld_cell w 5 (bstr l) q (by rw [hsz]; exact hq)
    rw [this]
    simp [bstr, hq]))
  obtain ⟨c0, hc0⟩ : ∃ c0, l[0] = c0 := ⟨_, rfl⟩
  have hr0 := HR.out c0 (by rw [← hc0]; exact List.getElem_mem _)
  have hlt0 : 0 < (bstr l).size := by rw [hsz]; exact hne
  have ha0 : (bstr l)[0]'hlt0 = c0 := by
    rw [← hc0]; simp [bstr, ByteArray.getElem_eq_getElem_data]
  have h45 : ¬ (c0.toNat : Int) = 45 := by omega
  have h43 : ¬ (c0.toNat : Int) = 43 := by omega
  have g45 : ((c0.toNat : Int) == 45) = false := by simpa using h45
  have g43 : ((c0.toNat : Int) == 43) = false := by simpa using h43
  have HB := Lib.hid (bytesWorld_B w 5 (bstr l))
  generalize Lib.bytesWorld w 5 (bstr l) = w1 at *
  rw [hsz, hS] at hrun
  rw [hS] at hsz hne hle
  generalize grownCap w S 0 5 = cp at *
  have b1 : (0 : Int) < (S : Int) := by omega
  have b2 : (S : Int) < 19 := by omega
  clear hl hS hc0
  go_enter Tryz.func56, Tryz.ntmps56
  go_wp2_with fail
  go_loopw [6, 49] (fun n i wr => ∃ q : Nat, q ≤ S ∧ i = .int .i64 q ∧ n = .int .i64 (decV (l.take q) : Int) ∧ wr = w1) (fun _ i _ => S - (intOf i).toNat)
  case atStart => exact ⟨0, by omega, rfl, rfl, rfl⟩
  case round =>
    obtain ⟨q, hq, rfl, rfl, rfl⟩ := hrel
    by_cases hqs : q < S
    · have hqi : (q : Int) < S := by omega
      have hql : q < l.length := by have := HS.out; omega
      have kx := HC.out q hql
      have hcr := HR.out _ (List.getElem_mem hql)
      have hdt := decV_take hql
      have hle2 := decV_le l (q + 1)
      rw [HV.out] at hle2
      generalize l[q] = c at *
      obtain ⟨z, hz⟩ : ∃ z, decV (l.take q) = z := ⟨_, rfl⟩
      obtain ⟨z2, hz2⟩ : ∃ z, decV (l.take (q + 1)) = z := ⟨_, rfl⟩
      rw [hz, hz2] at hdt
      rw [hz2] at hle2
      have HZ2 := Lib.hid hz2
      rw [hz]
      obtain ⟨k, hk⟩ : ∃ k, c.toNat - 48 = k := ⟨_, rfl⟩
      have hck : c.toNat = k + 48 := by omega
      rw [hk] at hdt
      rw [hck] at kx
      have hk9 : k ≤ 9 := by omega
      have w1' : IntKind.u8.wrap (((k + 48 : Nat) : Int) - 48) = (k : Int) := by simp [IntKind.wrap, IntKind.signed, IntKind.bits]; omega
      have hz9 : z * 10 + k ≤ 9007199254740992 := by omega
      have HDT := Lib.hid hdt
      clear hz hz2 hdt hle2 hk hck hcr hql h45 h43
      go_wp2_with fail
      go_roundw
      case rel => exact ⟨q + 1, by omega, by go_num, by rw [HZ2.out, HDT.out]; rfl, trivial⟩
      case measure => simp [intOf]; omega
    · obtain rfl : q = S := by omega
      have hqi : ¬ (q : Int) < q := by omega
      rw [List.take_of_length_le (by have := HS.out; omega), HV.out]
      go_wp2_with fail
      go_ret2
      exact ⟨rfl, HB.out⟩
theorem atoi_n (w : World) {n : Nat} (hn : n ≤ 9007199254740992) : Calls Tryz.prog 42 #[.string (bstr (Lib.decDigits n))] w fun e w' => e = .returned (.tuple #[.int .i64 (n : Int), .nilIface]) ∧ B w w' := by
  have H := Lib.hid (iatoi_n w hn)
  generalize bstr (Lib.decDigits n) = sb at *
  go_enter Tryz.func42, Tryz.ntmps42
  go_wp2_with (first | (go_at_call 56; (with_reducible refine H.out.mono ?_); rintro e w1 ⟨rfl, hb⟩; have HB := Lib.hid hb; clear hb))
  go_ret2
  exact ⟨rfl, HB.out⟩
end Go.Proofs.YtoikjgcggmemaaaGreatDoor
