/- What is asked of the variables that Go's library reads; its functions' contracts in the engine's form. No statement of the seat is proved here. -/
import Derived.Test.YtbfbjgakmnckbaaGreatDoorSl4
import Derived.Shelf.Strings.Builder1
import Derived.Shelf.Strings.Builder2
import Derived.Shelf.Strings.OnBuilder
import Derived.Shelf.Small.Bits
import Derived.Shelf.Small.Strs
import Derived.Shelf.Strings.BuilderF
import Derived.Shelf.Strconv.Itoa0
import Derived.Shelf.Strconv.Itoa1
import Derived.Shelf.LaysM
import Derived.Shelf.Strconv.Itoa2
import Derived.Shelf.Strconv.Itoa3
import Derived.Shelf.Strconv.Itoa4
import Derived.Shelf.Strconv.ParseIntEmpty
import Derived.Shelf.Strconv.Clone
import Derived.Shelf.Strconv.SyntaxError
import Derived.Shelf.LaysC
import Derived.Shelf.Strconv.ToError
import Derived.Shelf.Strconv.Lower
import Derived.Shelf.Strconv.ParseUint10
import Derived.Shelf.Strconv.ParseUint10Empty
import Derived.Shelf.Strconv.ParseUint10Any
import Derived.Shelf.Strconv.ParseInt10
import Derived.Shelf.Strconv.RangeError
import Derived.Shelf.Strconv.ToErrorRange
import Derived.Shelf.Strconv.ParseUintEmpty
import Derived.Shelf.Strconv.ParseUint10b64
import Derived.Shelf.Strconv.ParseUint10b32
import Derived.Shelf.Strconv.ParseUint10b16
import Derived.Shelf.Strconv.ParseUint10b8
import Derived.Shelf.Strconv.ParseUint10At
import Derived.Shelf.Strconv.ParseInt10At64
import Derived.Shelf.Strconv.ParseInt10At32
import Derived.Shelf.Strconv.ParseInt10At16
import Derived.Shelf.Strconv.ParseInt10At8
import Derived.Shelf.Strconv.ParseInt10All
import Derived.Shelf.Strconv.ParseIntPublic10
import Derived.Shelf.Strconv.ErrVarParseInt
import Derived.Shelf.Strings.Search1
import Derived.Shelf.Strings.Search2
import Derived.Shelf.Strings.Search3
import Derived.Shelf.Strings.Cut
import Derived.Shelf.Strings.Count
import Derived.Shelf.Strings.Shaped
import Derived.Shelf.Sort.Plain
import Derived.Shelf.GgClosure.StringsIndexFunc
import Derived.Ground.GgwProg
import Derived.Shelf.GgClosure.StringsIndexFuncTop
import Derived.Shelf.GgClosure.StringsRunes
import Derived.Shelf.Strings.Prefix
import Derived.Shelf.Strings.Split
import Derived.Shelf.Strings.SplitShaped
import Derived.Shelf.Unicode.DecodeSlow
import Derived.Shelf.Unicode.DecodeAny
import Derived.Shelf.Slices.Equal
import Derived.Ground.Names2Prog
import Derived.Shelf.Slices.Clone
import Derived.Shelf.Slices.CompactS
import Derived.Shelf.Slices.Cells
import Derived.Shelf.Slices.In.SortNone
import Derived.Shelf.Slices.Empties2
import Derived.Shelf.Bytes.SlSearch0
import Derived.Shelf.Bytes.Small
import Derived.Test.YtbfbjgakmnckbaaGreatDoorProg
namespace Go.Proofs
open Go.Shelf
def Tryz.lays170_ren : Go.Shelf.Ren := ⟨fun | 170 => 60 | n => n, fun | 70 => 106 | 3 => 3 | 0 => 0 | 72 => 108 | 37 => 23 | 5 => 5 | n => n, fun | n => n⟩
theorem Tryz.lays170 : Go.Proofs.Lays.n170 Tryz.prog Tryz.lays170_ren := {
  mixed := by kernel_rfl
  f170 := Tryz.func60.trans (congrArg some (by kernel_rfl))
  t0 := Tryz.underlying0
  a0 := Tryz.isAgg0
  z0 := Tryz.sizeOf0
  v0 := Tryz.zeroValue0
  t3 := Tryz.underlying3
  a3 := Tryz.isAgg3
  z3 := Tryz.sizeOf3
  v3 := Tryz.zeroValue3
  t37 := Tryz.underlying23
  a37 := Tryz.isAgg23
  z37 := Tryz.sizeOf23
  v37 := Tryz.zeroValue23
  t70 := Tryz.underlying106
  a70 := Tryz.isAgg106
  z70 := Tryz.sizeOf106
  v70 := Tryz.zeroValue106
  t72 := Tryz.underlying108
  a72 := Tryz.isAgg108
  z72 := Tryz.sizeOf108
  v72 := Tryz.zeroValue108 }
open Go.RowKit in
theorem Tryz.Builder_Len (B b : Nat) (bs : List Value) (w : World) (h : Lib.IsBuilder 108 5 B b bs w) :
    Calls Tryz.prog 60 #[.pointer (some ⟨b, 0, none⟩)] w fun e w' => e = .returned (.int .i64 bs.length) ∧ w' = w := Any.Builder_Len Tryz.lays170 B b bs w h
def Tryz.lays169_ren : Go.Shelf.Ren := ⟨fun | 169 => 61 | n => n, fun | 70 => 106 | 9 => 9 | 0 => 0 | 72 => 108 | 37 => 23 | 127 => 149 | 3 => 3 | 5 => 5 | n => n, fun | n => n⟩
theorem Tryz.lays169 : Go.Proofs.Lays.n169 Tryz.prog Tryz.lays169_ren := {
  mixed := by kernel_rfl
  f169 := Tryz.func61.trans (congrArg some (by kernel_rfl))
  t0 := Tryz.underlying0
  a0 := Tryz.isAgg0
  z0 := Tryz.sizeOf0
  v0 := Tryz.zeroValue0
  t3 := Tryz.underlying3
  a3 := Tryz.isAgg3
  z3 := Tryz.sizeOf3
  v3 := Tryz.zeroValue3
  t9 := Tryz.underlying9
  a9 := Tryz.isAgg9
  z9 := Tryz.sizeOf9
  v9 := Tryz.zeroValue9
  t37 := Tryz.underlying23
  a37 := Tryz.isAgg23
  z37 := Tryz.sizeOf23
  v37 := Tryz.zeroValue23
  t70 := Tryz.underlying106
  a70 := Tryz.isAgg106
  z70 := Tryz.sizeOf106
  v70 := Tryz.zeroValue106
  t72 := Tryz.underlying108
  a72 := Tryz.isAgg108
  z72 := Tryz.sizeOf108
  v72 := Tryz.zeroValue108
  t127 := Tryz.underlying149
  a127 := Tryz.isAgg149
  z127 := Tryz.sizeOf149
  v127 := Tryz.zeroValue149 }
theorem Tryz.Builder_Extra_169 : Builder.Extra Tryz.prog Tryz.lays169_ren := {
  sizeBuilder := by kernel_rfl
  liesBuilder := by kernel_rfl
  t5 := Tryz.underlying5
  a5 := Tryz.isAgg5
  z5 := Tryz.sizeOf5
  v5 := Tryz.zeroValue5
  infoByte := by kernel_rfl
  cellsByte := by kernel_rfl
  sizeByte := by kernel_rfl
  neB5 := by decide }
open Go.RowKit in
theorem Tryz.Builder_String_any (B b : Nat) (l : List UInt8) (w : World) (h : Lib.IsBuilder 108 5 B b (Lib.byteCells l) w) (hBw : B ≤ w.heap.size) :
    Calls Tryz.prog 61 #[.pointer (some ⟨b, 0, none⟩)] w fun e w' => e = .returned (.string ⟨l.toArray⟩) ∧ Below B w w' := Any.Builder_String_any Tryz.lays169 Tryz.Builder_Extra_169 B b l w h hBw
def Tryz.lays156_ren : Go.Shelf.Ren := ⟨fun | 156 => 71 | 165 => 102 | 166 => 59 | 169 => 61 | 240 => 98 | 241 => 122 | 276 => 110 | 277 => 138 | n => n, fun | 31 => 68 | 9 => 9 | 3 => 3 | 4 => 4 | 0 => 0 | 20 => 20 | 72 => 108 | 76 => 111 | 70 => 106 | 37 => 23 | 75 => 110 | 127 => 149 | 164 => 163 | 5 => 5 | 80 => 114 | n => n, fun | n => n⟩
theorem Tryz.lays156 : Go.Proofs.Lays.n156 Tryz.prog Tryz.lays156_ren := {
  mixed := by kernel_rfl
  f156 := Tryz.func71.trans (congrArg some (by kernel_rfl))
  f165 := Tryz.func102.trans (congrArg some (by kernel_rfl))
  f166 := Tryz.func59.trans (congrArg some (by kernel_rfl))
  f169 := Tryz.func61.trans (congrArg some (by kernel_rfl))
  f240 := Tryz.func98.trans (congrArg some (by kernel_rfl))
  f241 := Tryz.func122.trans (congrArg some (by kernel_rfl))
  f276 := Tryz.func110.trans (congrArg some (by kernel_rfl))
  f277 := Tryz.func138.trans (congrArg some (by kernel_rfl))
  t0 := Tryz.underlying0
  a0 := Tryz.isAgg0
  z0 := Tryz.sizeOf0
  v0 := Tryz.zeroValue0
  t3 := Tryz.underlying3
  a3 := Tryz.isAgg3
  z3 := Tryz.sizeOf3
  v3 := Tryz.zeroValue3
  t4 := Tryz.underlying4
  a4 := Tryz.isAgg4
  z4 := Tryz.sizeOf4
  v4 := Tryz.zeroValue4
  t9 := Tryz.underlying9
  a9 := Tryz.isAgg9
  z9 := Tryz.sizeOf9
  v9 := Tryz.zeroValue9
  t20 := Tryz.underlying20
  a20 := Tryz.isAgg20
  z20 := Tryz.sizeOf20
  v20 := Tryz.zeroValue20
  t31 := Tryz.underlying68
  a31 := Tryz.isAgg68
  z31 := Tryz.sizeOf68
  v31 := Tryz.zeroValue68
  t37 := Tryz.underlying23
  a37 := Tryz.isAgg23
  z37 := Tryz.sizeOf23
  v37 := Tryz.zeroValue23
  t70 := Tryz.underlying106
  a70 := Tryz.isAgg106
  z70 := Tryz.sizeOf106
  v70 := Tryz.zeroValue106
  t72 := Tryz.underlying108
  a72 := Tryz.isAgg108
  z72 := Tryz.sizeOf108
  v72 := Tryz.zeroValue108
  t75 := Tryz.underlying110
  a75 := Tryz.isAgg110
  z75 := Tryz.sizeOf110
  v75 := Tryz.zeroValue110
  t76 := Tryz.underlying111
  a76 := Tryz.isAgg111
  z76 := Tryz.sizeOf111
  v76 := Tryz.zeroValue111
  t127 := Tryz.underlying149
  a127 := Tryz.isAgg149
  z127 := Tryz.sizeOf149
  v127 := Tryz.zeroValue149
  t164 := Tryz.underlying163
  a164 := Tryz.isAgg163
  z164 := Tryz.sizeOf163
  v164 := Tryz.zeroValue163 }
theorem Tryz.Builder_Extra_156 : Builder.Extra Tryz.prog Tryz.lays156_ren := {
  sizeBuilder := by kernel_rfl
  liesBuilder := by kernel_rfl
  t5 := Tryz.underlying5
  a5 := Tryz.isAgg5
  z5 := Tryz.sizeOf5
  v5 := Tryz.zeroValue5
  infoByte := by kernel_rfl
  cellsByte := by kernel_rfl
  sizeByte := by kernel_rfl
  neB5 := by decide }
open Go.RowKit in
theorem Tryz.strings_Join (bk o c : Nat) (xs : List ByteArray) (sep : ByteArray) (w : World) (hcells : ∀ (j : Nat) x, xs[j]? = some x → w.cell? ⟨bk, o + j, none⟩ = some (.string x)) (hbk : bk < w.heap.size) (hN : xs.length ≤ 140737488355328) (hcap : xs.length ≤ c) (hlen : (Lib.join (xs.map (·.data.toList)) sep.data.toList).length ≤ 140737488355328) :
    Calls Tryz.prog 71 #[.slice (some ⟨bk, o, none⟩) xs.length c, .string sep] w fun e w' => e = .returned (.string ⟨(Lib.join (xs.map (·.data.toList)) sep.data.toList).toArray⟩) ∧ Below w.heap.size w w' := Any.strings_Join Tryz.lays156 Tryz.Builder_Extra_156 bk o c xs sep w hcells hbk hN hcap hlen
def Tryz.lays137_ren : Go.Shelf.Ren := ⟨fun | 137 => 172 | 217 => 128 | 266 => 142 | n => n, fun | 9 => 9 | 5 => 5 | 3 => 3 | n => n, fun | n => n⟩
theorem Tryz.lays137 : Go.Proofs.Lays.n137 Tryz.prog Tryz.lays137_ren := {
  mixed := by kernel_rfl
  f137 := Tryz.func172.trans (congrArg some (by kernel_rfl))
  f217 := Tryz.func128.trans (congrArg some (by kernel_rfl))
  f266 := Tryz.func142.trans (congrArg some (by kernel_rfl))
  t3 := Tryz.underlying3
  a3 := Tryz.isAgg3
  z3 := Tryz.sizeOf3
  v3 := Tryz.zeroValue3
  t5 := Tryz.underlying5
  a5 := Tryz.isAgg5
  z5 := Tryz.sizeOf5
  v5 := Tryz.zeroValue5
  t9 := Tryz.underlying9
  a9 := Tryz.isAgg9
  z9 := Tryz.sizeOf9
  v9 := Tryz.zeroValue9 }
open Go.RowKit in
theorem Tryz.strings_IndexByte (s : ByteArray) (c : Int) (w : World) :
    Calls Tryz.prog 172 #[.string s, .int .u8 c] w fun e w' => e = .returned (.int .i64 (Lib.indexByte s.data.toList c.toNat.toUInt8)) ∧ w' = w := Any.strings_IndexByte Tryz.lays137 s c w
def Tryz.laysM171_ren : Go.Shelf.Ren := ⟨fun | 171 => 50 | 243 => 92 | 246 => 91 | 283 => 105 | 284 => 106 | 285 => 107 | 286 => 108 | 129 => 121 | 317 => 124 | 318 => 125 | 319 => 126 | 320 => 127 | 337 => 140 | 338 => 141 | n => n, fun | 3 => 3 | 9 => 9 | 2 => 2 | 4 => 4 | 171 => 157 | 0 => 0 | 53 => 158 | 37 => 23 | 5 => 5 | 173 => 161 | 212 => 179 | 51 => 174 | 20 => 20 | 213 => 180 | 46 => 152 | 232 => 197 | 233 => 198 | n => n, fun | 17 => 1 | 18 => 4 | 19 => 5 | n => n⟩
theorem Tryz.laysM171 : Go.Proofs.LaysM.n171 Tryz.prog Tryz.laysM171_ren := {
  mixed := by kernel_rfl
  f129 := Tryz.func121.trans (congrArg some (by kernel_rfl))
  f171 := Tryz.func50.trans (congrArg some (by kernel_rfl))
  f243 := Tryz.func92.trans (congrArg some (by kernel_rfl))
  f246 := Tryz.func91.trans (congrArg some (by kernel_rfl))
  f283 := Tryz.func105.trans (congrArg some (by kernel_rfl))
  f284 := Tryz.func106.trans (congrArg some (by kernel_rfl))
  f285 := Tryz.func107.trans (congrArg some (by kernel_rfl))
  f286 := Tryz.func108.trans (congrArg some (by kernel_rfl))
  f317 := Tryz.func124.trans (congrArg some (by kernel_rfl))
  f318 := Tryz.func125.trans (congrArg some (by kernel_rfl))
  f319 := Tryz.func126.trans (congrArg some (by kernel_rfl))
  f320 := Tryz.func127.trans (congrArg some (by kernel_rfl))
  f337 := Tryz.func140.trans (congrArg some (by kernel_rfl))
  f338 := Tryz.func141.trans (congrArg some (by kernel_rfl))
  t0 := Tryz.underlying0
  a0 := Tryz.isAgg0
  z0 := Tryz.sizeOf0
  v0 := Tryz.zeroValue0
  t2 := Tryz.underlying2
  a2 := Tryz.isAgg2
  z2 := Tryz.sizeOf2
  v2 := Tryz.zeroValue2
  t3 := Tryz.underlying3
  a3 := Tryz.isAgg3
  z3 := Tryz.sizeOf3
  v3 := Tryz.zeroValue3
  t4 := Tryz.underlying4
  a4 := Tryz.isAgg4
  z4 := Tryz.sizeOf4
  v4 := Tryz.zeroValue4
  t5 := Tryz.underlying5
  a5 := Tryz.isAgg5
  z5 := Tryz.sizeOf5
  v5 := Tryz.zeroValue5
  t9 := Tryz.underlying9
  a9 := Tryz.isAgg9
  z9 := Tryz.sizeOf9
  v9 := Tryz.zeroValue9
  t20 := Tryz.underlying20
  a20 := Tryz.isAgg20
  z20 := Tryz.sizeOf20
  v20 := Tryz.zeroValue20
  t37 := Tryz.underlying23
  a37 := Tryz.isAgg23
  z37 := Tryz.sizeOf23
  v37 := Tryz.zeroValue23
  t46 := Tryz.underlying152
  a46 := Tryz.isAgg152
  z46 := Tryz.sizeOf152
  v46 := Tryz.zeroValue152
  t51 := Tryz.underlying174
  a51 := Tryz.isAgg174
  z51 := Tryz.sizeOf174
  v51 := Tryz.zeroValue174
  t53 := Tryz.underlying158
  a53 := Tryz.isAgg158
  z53 := Tryz.sizeOf158
  v53 := Tryz.zeroValue158
  t171 := Tryz.underlying157
  a171 := Tryz.isAgg157
  z171 := Tryz.sizeOf157
  v171 := Tryz.zeroValue157
  t173 := Tryz.underlying161
  a173 := Tryz.isAgg161
  z173 := Tryz.sizeOf161
  v173 := Tryz.zeroValue161
  t212 := Tryz.underlying179
  a212 := Tryz.isAgg179
  z212 := Tryz.sizeOf179
  v212 := Tryz.zeroValue179
  t213 := Tryz.underlying180
  a213 := Tryz.isAgg180
  z213 := Tryz.sizeOf180
  t232 := Tryz.underlying197
  a232 := Tryz.isAgg197
  z232 := Tryz.sizeOf197
  v232 := Tryz.zeroValue197
  t233 := Tryz.underlying198
  a233 := Tryz.isAgg198
  z233 := Tryz.sizeOf198
  v233 := Tryz.zeroValue198
  g17 := by kernel_rfl
  g18 := by kernel_rfl
  g19 := by kernel_rfl
  i0 := by kernel_rfl
  i2 := by kernel_rfl
  i3 := by kernel_rfl
  i4 := by kernel_rfl
  i5 := by kernel_rfl
  i9 := by kernel_rfl
  i20 := by kernel_rfl
  i37 := by kernel_rfl
  i46 := by kernel_rfl
  i51 := by kernel_rfl
  i53 := by kernel_rfl
  i171 := by kernel_rfl
  i173 := by kernel_rfl
  i212 := by kernel_rfl
  i232 := by kernel_rfl
  i233 := by kernel_rfl
  m17 := by kernel_rfl
  m18 := by kernel_rfl
  m19 := by kernel_rfl }
open Go.RowKit Go.Sort Go.Lib in
theorem Tryz.strconv_Itoa (n : Int) (h0 : -9223372036854775808 ≤ n) (h1 : n ≤ 9223372036854775807) (w : World) (htab : Lib.TabIs Tryz.prog w "internal/strconv.uint64pow10" .u64 Lib.pow10Tab) :
    Calls Tryz.prog 50 #[.int .i64 n] w fun e w' => e = .returned (.string ⟨(Lib.itoa n).toArray⟩) ∧ ∃ k os, w' = grow (w.drewN k) os := Any.strconv_Itoa Tryz.laysM171 n h0 h1 w htab
def Tryz.lays171_ren : Go.Shelf.Ren := ⟨fun | 171 => 50 | 243 => 92 | 246 => 91 | 283 => 105 | 284 => 106 | 285 => 107 | 286 => 108 | 129 => 121 | 317 => 124 | 318 => 125 | 319 => 126 | 320 => 127 | 337 => 140 | 338 => 141 | n => n, fun | 3 => 3 | 9 => 9 | 2 => 2 | 4 => 4 | 171 => 157 | 0 => 0 | 53 => 158 | 37 => 23 | 5 => 5 | 173 => 161 | 212 => 179 | 51 => 174 | 20 => 20 | 213 => 180 | 46 => 152 | 232 => 197 | 233 => 198 | n => n, fun | 17 => 1 | 18 => 4 | 19 => 5 | n => n⟩
theorem Tryz.lays171 : Go.Proofs.Lays.n171 Tryz.prog Tryz.lays171_ren := {
  mixed := by kernel_rfl
  f129 := Tryz.func121.trans (congrArg some (by kernel_rfl))
  f171 := Tryz.func50.trans (congrArg some (by kernel_rfl))
  f243 := Tryz.func92.trans (congrArg some (by kernel_rfl))
  f246 := Tryz.func91.trans (congrArg some (by kernel_rfl))
  f283 := Tryz.func105.trans (congrArg some (by kernel_rfl))
  f284 := Tryz.func106.trans (congrArg some (by kernel_rfl))
  f285 := Tryz.func107.trans (congrArg some (by kernel_rfl))
  f286 := Tryz.func108.trans (congrArg some (by kernel_rfl))
  f317 := Tryz.func124.trans (congrArg some (by kernel_rfl))
  f318 := Tryz.func125.trans (congrArg some (by kernel_rfl))
  f319 := Tryz.func126.trans (congrArg some (by kernel_rfl))
  f320 := Tryz.func127.trans (congrArg some (by kernel_rfl))
  f337 := Tryz.func140.trans (congrArg some (by kernel_rfl))
  f338 := Tryz.func141.trans (congrArg some (by kernel_rfl))
  t0 := Tryz.underlying0
  a0 := Tryz.isAgg0
  z0 := Tryz.sizeOf0
  v0 := Tryz.zeroValue0
  t2 := Tryz.underlying2
  a2 := Tryz.isAgg2
  z2 := Tryz.sizeOf2
  v2 := Tryz.zeroValue2
  t3 := Tryz.underlying3
  a3 := Tryz.isAgg3
  z3 := Tryz.sizeOf3
  v3 := Tryz.zeroValue3
  t4 := Tryz.underlying4
  a4 := Tryz.isAgg4
  z4 := Tryz.sizeOf4
  v4 := Tryz.zeroValue4
  t5 := Tryz.underlying5
  a5 := Tryz.isAgg5
  z5 := Tryz.sizeOf5
  v5 := Tryz.zeroValue5
  t9 := Tryz.underlying9
  a9 := Tryz.isAgg9
  z9 := Tryz.sizeOf9
  v9 := Tryz.zeroValue9
  t20 := Tryz.underlying20
  a20 := Tryz.isAgg20
  z20 := Tryz.sizeOf20
  v20 := Tryz.zeroValue20
  t37 := Tryz.underlying23
  a37 := Tryz.isAgg23
  z37 := Tryz.sizeOf23
  v37 := Tryz.zeroValue23
  t46 := Tryz.underlying152
  a46 := Tryz.isAgg152
  z46 := Tryz.sizeOf152
  v46 := Tryz.zeroValue152
  t51 := Tryz.underlying174
  a51 := Tryz.isAgg174
  z51 := Tryz.sizeOf174
  v51 := Tryz.zeroValue174
  t53 := Tryz.underlying158
  a53 := Tryz.isAgg158
  z53 := Tryz.sizeOf158
  v53 := Tryz.zeroValue158
  t171 := Tryz.underlying157
  a171 := Tryz.isAgg157
  z171 := Tryz.sizeOf157
  v171 := Tryz.zeroValue157
  t173 := Tryz.underlying161
  a173 := Tryz.isAgg161
  z173 := Tryz.sizeOf161
  v173 := Tryz.zeroValue161
  t212 := Tryz.underlying179
  a212 := Tryz.isAgg179
  z212 := Tryz.sizeOf179
  v212 := Tryz.zeroValue179
  t213 := Tryz.underlying180
  a213 := Tryz.isAgg180
  z213 := Tryz.sizeOf180
  t232 := Tryz.underlying197
  a232 := Tryz.isAgg197
  z232 := Tryz.sizeOf197
  v232 := Tryz.zeroValue197
  t233 := Tryz.underlying198
  a233 := Tryz.isAgg198
  z233 := Tryz.sizeOf198
  v233 := Tryz.zeroValue198
  g17 := by kernel_rfl
  g18 := by kernel_rfl
  g19 := by kernel_rfl }
open Go.RowKit Go.Sort Go.Lib in
theorem Tryz.strconv_Itoa_small (i : Nat) (hi : i < 100) (w : World) :
    Calls Tryz.prog 50 #[.int .i64 i] w fun e w' => e = .returned (.string ⟨(Lib.decDigits i).toArray⟩) ∧ w' = w := Any.strconv_Itoa_small Tryz.lays171 i hi w
def Tryz.laysM173_ren : Go.Shelf.Ren := ⟨fun | 173 => 49 | 246 => 91 | 283 => 105 | 284 => 106 | 285 => 107 | 286 => 108 | 129 => 121 | 317 => 124 | 318 => 125 | 319 => 126 | 320 => 127 | 337 => 140 | 338 => 141 | n => n, fun | 2 => 2 | 3 => 3 | 9 => 9 | 4 => 4 | 171 => 157 | 0 => 0 | 53 => 158 | 37 => 23 | 5 => 5 | 173 => 161 | 212 => 179 | 51 => 174 | 20 => 20 | 213 => 180 | 46 => 152 | 232 => 197 | 233 => 198 | n => n, fun | 17 => 1 | 18 => 4 | 19 => 5 | n => n⟩
theorem Tryz.laysM173 : Go.Proofs.LaysM.n173 Tryz.prog Tryz.laysM173_ren := {
  mixed := by kernel_rfl
  f129 := Tryz.func121.trans (congrArg some (by kernel_rfl))
  f173 := Tryz.func49.trans (congrArg some (by kernel_rfl))
  f246 := Tryz.func91.trans (congrArg some (by kernel_rfl))
  f283 := Tryz.func105.trans (congrArg some (by kernel_rfl))
  f284 := Tryz.func106.trans (congrArg some (by kernel_rfl))
  f285 := Tryz.func107.trans (congrArg some (by kernel_rfl))
  f286 := Tryz.func108.trans (congrArg some (by kernel_rfl))
  f317 := Tryz.func124.trans (congrArg some (by kernel_rfl))
  f318 := Tryz.func125.trans (congrArg some (by kernel_rfl))
  f319 := Tryz.func126.trans (congrArg some (by kernel_rfl))
  f320 := Tryz.func127.trans (congrArg some (by kernel_rfl))
  f337 := Tryz.func140.trans (congrArg some (by kernel_rfl))
  f338 := Tryz.func141.trans (congrArg some (by kernel_rfl))
  t0 := Tryz.underlying0
  a0 := Tryz.isAgg0
  z0 := Tryz.sizeOf0
  v0 := Tryz.zeroValue0
  t2 := Tryz.underlying2
  a2 := Tryz.isAgg2
  z2 := Tryz.sizeOf2
  v2 := Tryz.zeroValue2
  t3 := Tryz.underlying3
  a3 := Tryz.isAgg3
  z3 := Tryz.sizeOf3
  v3 := Tryz.zeroValue3
  t4 := Tryz.underlying4
  a4 := Tryz.isAgg4
  z4 := Tryz.sizeOf4
  v4 := Tryz.zeroValue4
  t5 := Tryz.underlying5
  a5 := Tryz.isAgg5
  z5 := Tryz.sizeOf5
  v5 := Tryz.zeroValue5
  t9 := Tryz.underlying9
  a9 := Tryz.isAgg9
  z9 := Tryz.sizeOf9
  v9 := Tryz.zeroValue9
  t20 := Tryz.underlying20
  a20 := Tryz.isAgg20
  z20 := Tryz.sizeOf20
  v20 := Tryz.zeroValue20
  t37 := Tryz.underlying23
  a37 := Tryz.isAgg23
  z37 := Tryz.sizeOf23
  v37 := Tryz.zeroValue23
  t46 := Tryz.underlying152
  a46 := Tryz.isAgg152
  z46 := Tryz.sizeOf152
  v46 := Tryz.zeroValue152
  t51 := Tryz.underlying174
  a51 := Tryz.isAgg174
  z51 := Tryz.sizeOf174
  v51 := Tryz.zeroValue174
  t53 := Tryz.underlying158
  a53 := Tryz.isAgg158
  z53 := Tryz.sizeOf158
  v53 := Tryz.zeroValue158
  t171 := Tryz.underlying157
  a171 := Tryz.isAgg157
  z171 := Tryz.sizeOf157
  v171 := Tryz.zeroValue157
  t173 := Tryz.underlying161
  a173 := Tryz.isAgg161
  z173 := Tryz.sizeOf161
  v173 := Tryz.zeroValue161
  t212 := Tryz.underlying179
  a212 := Tryz.isAgg179
  z212 := Tryz.sizeOf179
  v212 := Tryz.zeroValue179
  t213 := Tryz.underlying180
  a213 := Tryz.isAgg180
  z213 := Tryz.sizeOf180
  t232 := Tryz.underlying197
  a232 := Tryz.isAgg197
  z232 := Tryz.sizeOf197
  v232 := Tryz.zeroValue197
  t233 := Tryz.underlying198
  a233 := Tryz.isAgg198
  z233 := Tryz.sizeOf198
  v233 := Tryz.zeroValue198
  g17 := by kernel_rfl
  g18 := by kernel_rfl
  g19 := by kernel_rfl
  i0 := by kernel_rfl
  i2 := by kernel_rfl
  i3 := by kernel_rfl
  i4 := by kernel_rfl
  i5 := by kernel_rfl
  i9 := by kernel_rfl
  i20 := by kernel_rfl
  i37 := by kernel_rfl
  i46 := by kernel_rfl
  i51 := by kernel_rfl
  i53 := by kernel_rfl
  i171 := by kernel_rfl
  i173 := by kernel_rfl
  i212 := by kernel_rfl
  i232 := by kernel_rfl
  i233 := by kernel_rfl
  m17 := by kernel_rfl
  m18 := by kernel_rfl
  m19 := by kernel_rfl }
open Go.RowKit Go.Sort Go.Lib in
theorem Tryz.strconv_FormatInt_10 (n : Int) (h0 : -9223372036854775808 ≤ n) (h1 : n ≤ 9223372036854775807) (w : World) (htab : Lib.TabIs Tryz.prog w "internal/strconv.uint64pow10" .u64 Lib.pow10Tab) :
    Calls Tryz.prog 49 #[.int .i64 n, .int .i64 10] w fun e w' => e = .returned (.string ⟨(Lib.itoa n).toArray⟩) ∧ ∃ k os, w' = grow (w.drewN k) os := Any.strconv_FormatInt_10 Tryz.laysM173 n h0 h1 w htab
def Tryz.lays173_ren : Go.Shelf.Ren := ⟨fun | 173 => 49 | 246 => 91 | 283 => 105 | 284 => 106 | 285 => 107 | 286 => 108 | 129 => 121 | 317 => 124 | 318 => 125 | 319 => 126 | 320 => 127 | 337 => 140 | 338 => 141 | n => n, fun | 2 => 2 | 3 => 3 | 9 => 9 | 4 => 4 | 171 => 157 | 0 => 0 | 53 => 158 | 37 => 23 | 5 => 5 | 173 => 161 | 212 => 179 | 51 => 174 | 20 => 20 | 213 => 180 | 46 => 152 | 232 => 197 | 233 => 198 | n => n, fun | 17 => 1 | 18 => 4 | 19 => 5 | n => n⟩
theorem Tryz.lays173 : Go.Proofs.Lays.n173 Tryz.prog Tryz.lays173_ren := {
  mixed := by kernel_rfl
  f129 := Tryz.func121.trans (congrArg some (by kernel_rfl))
  f173 := Tryz.func49.trans (congrArg some (by kernel_rfl))
  f246 := Tryz.func91.trans (congrArg some (by kernel_rfl))
  f283 := Tryz.func105.trans (congrArg some (by kernel_rfl))
  f284 := Tryz.func106.trans (congrArg some (by kernel_rfl))
  f285 := Tryz.func107.trans (congrArg some (by kernel_rfl))
  f286 := Tryz.func108.trans (congrArg some (by kernel_rfl))
  f317 := Tryz.func124.trans (congrArg some (by kernel_rfl))
  f318 := Tryz.func125.trans (congrArg some (by kernel_rfl))
  f319 := Tryz.func126.trans (congrArg some (by kernel_rfl))
  f320 := Tryz.func127.trans (congrArg some (by kernel_rfl))
  f337 := Tryz.func140.trans (congrArg some (by kernel_rfl))
  f338 := Tryz.func141.trans (congrArg some (by kernel_rfl))
  t0 := Tryz.underlying0
  a0 := Tryz.isAgg0
  z0 := Tryz.sizeOf0
  v0 := Tryz.zeroValue0
  t2 := Tryz.underlying2
  a2 := Tryz.isAgg2
  z2 := Tryz.sizeOf2
  v2 := Tryz.zeroValue2
  t3 := Tryz.underlying3
  a3 := Tryz.isAgg3
  z3 := Tryz.sizeOf3
  v3 := Tryz.zeroValue3
  t4 := Tryz.underlying4
  a4 := Tryz.isAgg4
  z4 := Tryz.sizeOf4
  v4 := Tryz.zeroValue4
  t5 := Tryz.underlying5
  a5 := Tryz.isAgg5
  z5 := Tryz.sizeOf5
  v5 := Tryz.zeroValue5
  t9 := Tryz.underlying9
  a9 := Tryz.isAgg9
  z9 := Tryz.sizeOf9
  v9 := Tryz.zeroValue9
  t20 := Tryz.underlying20
  a20 := Tryz.isAgg20
  z20 := Tryz.sizeOf20
  v20 := Tryz.zeroValue20
  t37 := Tryz.underlying23
  a37 := Tryz.isAgg23
  z37 := Tryz.sizeOf23
  v37 := Tryz.zeroValue23
  t46 := Tryz.underlying152
  a46 := Tryz.isAgg152
  z46 := Tryz.sizeOf152
  v46 := Tryz.zeroValue152
  t51 := Tryz.underlying174
  a51 := Tryz.isAgg174
  z51 := Tryz.sizeOf174
  v51 := Tryz.zeroValue174
  t53 := Tryz.underlying158
  a53 := Tryz.isAgg158
  z53 := Tryz.sizeOf158
  v53 := Tryz.zeroValue158
  t171 := Tryz.underlying157
  a171 := Tryz.isAgg157
  z171 := Tryz.sizeOf157
  v171 := Tryz.zeroValue157
  t173 := Tryz.underlying161
  a173 := Tryz.isAgg161
  z173 := Tryz.sizeOf161
  v173 := Tryz.zeroValue161
  t212 := Tryz.underlying179
  a212 := Tryz.isAgg179
  z212 := Tryz.sizeOf179
  v212 := Tryz.zeroValue179
  t213 := Tryz.underlying180
  a213 := Tryz.isAgg180
  z213 := Tryz.sizeOf180
  t232 := Tryz.underlying197
  a232 := Tryz.isAgg197
  z232 := Tryz.sizeOf197
  v232 := Tryz.zeroValue197
  t233 := Tryz.underlying198
  a233 := Tryz.isAgg198
  z233 := Tryz.sizeOf198
  v233 := Tryz.zeroValue198
  g17 := by kernel_rfl
  g18 := by kernel_rfl
  g19 := by kernel_rfl }
open Go.RowKit Go.Sort Go.Lib in
theorem Tryz.strconv_FormatInt_10_small (i : Nat) (hi : i < 100) (w : World) :
    Calls Tryz.prog 49 #[.int .i64 i, .int .i64 10] w fun e w' => e = .returned (.string ⟨(Lib.decDigits i).toArray⟩) ∧ w' = w := Any.strconv_FormatInt_10_small Tryz.lays173 i hi w
def Tryz.laysC174_ren : Go.Shelf.Ren := ⟨fun | 174 => 171 | 247 => 173 | 245 => 174 | 287 => 175 | 279 => 176 | 280 => 177 | 281 => 178 | 282 => 179 | 321 => 180 | 322 => 181 | 316 => 182 | 171 => 50 | 205 => 183 | 243 => 92 | 246 => 91 | 283 => 105 | 284 => 106 | 285 => 107 | 286 => 108 | 129 => 121 | 317 => 124 | 318 => 125 | 319 => 126 | 320 => 127 | 337 => 140 | 338 => 141 | n => n, fun | 9 => 9 | 3 => 3 | 2 => 2 | 75 => 110 | 85 => 213 | 4 => 4 | 167 => 216 | 5 => 5 | 53 => 158 | 175 => 217 | 46 => 152 | 168 => 219 | 37 => 23 | 0 => 0 | 210 => 224 | 21 => 21 | 127 => 149 | 145 => 228 | 143 => 226 | 171 => 157 | 173 => 161 | 212 => 179 | 51 => 174 | 20 => 20 | 213 => 180 | 232 => 197 | 233 => 198 | 80 => 114 | n => n, fun | 15 => 6 | 16 => 7 | 17 => 1 | 18 => 4 | 19 => 5 | n => n⟩
theorem Tryz.laysC174 : Go.Proofs.LaysC.n174 Tryz.prog Tryz.laysC174_ren := {
  mixed := by kernel_rfl
  f129 := Tryz.func121.trans (congrArg some (by kernel_rfl))
  f171 := Tryz.func50.trans (congrArg some (by kernel_rfl))
  f174 := Tryz.func171.trans (congrArg some (by kernel_rfl))
  f205 := Tryz.func183.trans (congrArg some (by kernel_rfl))
  f243 := Tryz.func92.trans (congrArg some (by kernel_rfl))
  f245 := Tryz.func174.trans (congrArg some (by kernel_rfl))
  f246 := Tryz.func91.trans (congrArg some (by kernel_rfl))
  f247 := Tryz.func173.trans (congrArg some (by kernel_rfl))
  f279 := Tryz.func176.trans (congrArg some (by kernel_rfl))
  f280 := Tryz.func177.trans (congrArg some (by kernel_rfl))
  f281 := Tryz.func178.trans (congrArg some (by kernel_rfl))
  f282 := Tryz.func179.trans (congrArg some (by kernel_rfl))
  f283 := Tryz.func105.trans (congrArg some (by kernel_rfl))
  f284 := Tryz.func106.trans (congrArg some (by kernel_rfl))
  f285 := Tryz.func107.trans (congrArg some (by kernel_rfl))
  f286 := Tryz.func108.trans (congrArg some (by kernel_rfl))
  f287 := Tryz.func175.trans (congrArg some (by kernel_rfl))
  f316 := Tryz.func182.trans (congrArg some (by kernel_rfl))
  f317 := Tryz.func124.trans (congrArg some (by kernel_rfl))
  f318 := Tryz.func125.trans (congrArg some (by kernel_rfl))
  f319 := Tryz.func126.trans (congrArg some (by kernel_rfl))
  f320 := Tryz.func127.trans (congrArg some (by kernel_rfl))
  f321 := Tryz.func180.trans (congrArg some (by kernel_rfl))
  f322 := Tryz.func181.trans (congrArg some (by kernel_rfl))
  f337 := Tryz.func140.trans (congrArg some (by kernel_rfl))
  f338 := Tryz.func141.trans (congrArg some (by kernel_rfl))
  t0 := Tryz.underlying0
  a0 := Tryz.isAgg0
  z0 := Tryz.sizeOf0
  v0 := Tryz.zeroValue0
  t2 := Tryz.underlying2
  a2 := Tryz.isAgg2
  z2 := Tryz.sizeOf2
  v2 := Tryz.zeroValue2
  t3 := Tryz.underlying3
  a3 := Tryz.isAgg3
  z3 := Tryz.sizeOf3
  v3 := Tryz.zeroValue3
  t4 := Tryz.underlying4
  a4 := Tryz.isAgg4
  z4 := Tryz.sizeOf4
  v4 := Tryz.zeroValue4
  t5 := Tryz.underlying5
  a5 := Tryz.isAgg5
  z5 := Tryz.sizeOf5
  v5 := Tryz.zeroValue5
  t9 := Tryz.underlying9
  a9 := Tryz.isAgg9
  z9 := Tryz.sizeOf9
  v9 := Tryz.zeroValue9
  t20 := Tryz.underlying20
  a20 := Tryz.isAgg20
  z20 := Tryz.sizeOf20
  v20 := Tryz.zeroValue20
  t21 := Tryz.underlying21
  a21 := Tryz.isAgg21
  z21 := Tryz.sizeOf21
  v21 := Tryz.zeroValue21
  t37 := Tryz.underlying23
  a37 := Tryz.isAgg23
  z37 := Tryz.sizeOf23
  v37 := Tryz.zeroValue23
  t46 := Tryz.underlying152
  a46 := Tryz.isAgg152
  z46 := Tryz.sizeOf152
  v46 := Tryz.zeroValue152
  t51 := Tryz.underlying174
  a51 := Tryz.isAgg174
  z51 := Tryz.sizeOf174
  v51 := Tryz.zeroValue174
  t53 := Tryz.underlying158
  a53 := Tryz.isAgg158
  z53 := Tryz.sizeOf158
  v53 := Tryz.zeroValue158
  t75 := Tryz.underlying110
  a75 := Tryz.isAgg110
  z75 := Tryz.sizeOf110
  v75 := Tryz.zeroValue110
  t85 := Tryz.underlying213
  a85 := Tryz.isAgg213
  z85 := Tryz.sizeOf213
  v85 := Tryz.zeroValue213
  t127 := Tryz.underlying149
  a127 := Tryz.isAgg149
  z127 := Tryz.sizeOf149
  v127 := Tryz.zeroValue149
  t143 := Tryz.underlying226
  a143 := Tryz.isAgg226
  z143 := Tryz.sizeOf226
  v143 := Tryz.zeroValue226
  t145 := Tryz.underlying228
  a145 := Tryz.isAgg228
  z145 := Tryz.sizeOf228
  v145 := Tryz.zeroValue228
  t167 := Tryz.underlying216
  a167 := Tryz.isAgg216
  z167 := Tryz.sizeOf216
  v167 := Tryz.zeroValue216
  t168 := Tryz.underlying219
  a168 := Tryz.isAgg219
  z168 := Tryz.sizeOf219
  v168 := Tryz.zeroValue219
  t171 := Tryz.underlying157
  a171 := Tryz.isAgg157
  z171 := Tryz.sizeOf157
  v171 := Tryz.zeroValue157
  t173 := Tryz.underlying161
  a173 := Tryz.isAgg161
  z173 := Tryz.sizeOf161
  v173 := Tryz.zeroValue161
  t175 := Tryz.underlying217
  a175 := Tryz.isAgg217
  z175 := Tryz.sizeOf217
  v175 := Tryz.zeroValue217
  t210 := Tryz.underlying224
  a210 := Tryz.isAgg224
  z210 := Tryz.sizeOf224
  v210 := Tryz.zeroValue224
  t212 := Tryz.underlying179
  a212 := Tryz.isAgg179
  z212 := Tryz.sizeOf179
  v212 := Tryz.zeroValue179
  t213 := Tryz.underlying180
  a213 := Tryz.isAgg180
  z213 := Tryz.sizeOf180
  t232 := Tryz.underlying197
  a232 := Tryz.isAgg197
  z232 := Tryz.sizeOf197
  v232 := Tryz.zeroValue197
  t233 := Tryz.underlying198
  a233 := Tryz.isAgg198
  z233 := Tryz.sizeOf198
  v233 := Tryz.zeroValue198
  g15 := by kernel_rfl
  g16 := by kernel_rfl
  g17 := by kernel_rfl
  g18 := by kernel_rfl
  g19 := by kernel_rfl
  t80 := Tryz.underlying114
  a80 := Tryz.isAgg114
  z80 := Tryz.sizeOf114
  v80 := Tryz.zeroValue114
  i0 := by kernel_rfl
  i2 := by kernel_rfl
  i3 := by kernel_rfl
  i4 := by kernel_rfl
  i5 := by kernel_rfl
  i9 := by kernel_rfl
  i20 := by kernel_rfl
  i21 := by kernel_rfl
  i37 := by kernel_rfl
  i46 := by kernel_rfl
  i51 := by kernel_rfl
  i53 := by kernel_rfl
  i75 := by kernel_rfl
  i80 := by kernel_rfl
  i85 := by kernel_rfl
  i127 := by kernel_rfl
  i143 := by kernel_rfl
  i145 := by kernel_rfl
  i167 := by kernel_rfl
  i168 := by kernel_rfl
  i171 := by kernel_rfl
  i173 := by kernel_rfl
  i175 := by kernel_rfl
  i210 := by kernel_rfl
  i212 := by kernel_rfl
  i232 := by kernel_rfl
  i233 := by kernel_rfl
  m15 := by kernel_rfl
  m16 := by kernel_rfl
  m17 := by kernel_rfl
  m18 := by kernel_rfl
  m19 := by kernel_rfl
  c0 := by kernel_rfl
  c2 := by kernel_rfl
  c3 := by kernel_rfl
  c4 := by kernel_rfl
  c5 := by kernel_rfl
  c9 := by kernel_rfl
  c20 := by kernel_rfl
  c21 := by kernel_rfl
  c37 := by kernel_rfl
  c46 := by kernel_rfl
  c51 := by kernel_rfl
  c53 := by kernel_rfl
  c75 := by kernel_rfl
  c80 := by kernel_rfl
  c85 := by kernel_rfl
  c127 := by kernel_rfl
  c143 := by kernel_rfl
  c145 := by kernel_rfl
  c167 := by kernel_rfl
  c168 := by kernel_rfl
  c171 := by kernel_rfl
  c173 := by kernel_rfl
  c175 := by kernel_rfl
  c210 := by kernel_rfl
  c212 := by kernel_rfl
  c213 := by kernel_rfl
  c232 := by kernel_rfl
  c233 := by kernel_rfl }
open Go.RowKit in
theorem Tryz.strconv_ParseInt_10_at64_ok (s : ByteArray) (hmax : s.size ≤ 9223372036854775806) (v : Int) (h : Lib.parseIntB 64 s.data.toList = .ok v) (w : World) :
    Calls Tryz.prog 171 #[.string s, .int .i64 10, .int .i64 64] w fun e w' => e = .returned (.tuple #[.int .i64 v, .nilIface]) ∧ (w' = w ∨ ∃ t, w' = Lib.bytesWorld w 5 t) := Any.strconv_ParseInt_10_at64_ok Tryz.laysC174 s hmax v h w
open Go.RowKit in
theorem Tryz.strconv_ParseInt_10_at64_range (s : ByteArray) (hlim : s.size ≤ 281474976710656) (h : Lib.parseIntB 64 s.data.toList = .range) (ev : Value) (w : World) (hv : w.cell? ⟨7, 0, none⟩ = some ev) (hev : ev = .nilIface ∨ ∃ te pe, ev = .iface te pe) :
    Calls Tryz.prog 171 #[.string s, .int .i64 10, .int .i64 64] w fun e w' => ∃ N, e = .returned (.tuple #[.int .i64 (Lib.intSat 64 s.data.toList), .iface 219 (.pointer (some ⟨N, 0, none⟩))]) ∧ w.heap.size ≤ N ∧ w'.heap[N]? = some (.cells #[.string ⟨#[80, 97, 114, 115, 101, 73, 110, 116]⟩, .string s, ev] 224 (0, 0)) ∧ Below w.heap.size w w' := Any.strconv_ParseInt_10_at64_range Tryz.laysC174 s hlim h ev w hv hev
def Tryz.lays145_ren : Go.Shelf.Ren := ⟨fun | 145 => 56 | 220 => 97 | 219 => 109 | 217 => 128 | 225 => 129 | 224 => 130 | 267 => 131 | 266 => 142 | 314 => 143 | n => n, fun | 9 => 9 | 4 => 4 | 59 => 103 | 3 => 3 | 5 => 5 | 46 => 152 | 146 => 188 | 51 => 174 | n => n, fun | 1 => 0 | n => n⟩
theorem Tryz.lays145 : Go.Proofs.Lays.n145 Tryz.prog Tryz.lays145_ren := {
  mixed := by kernel_rfl
  f145 := Tryz.func56.trans (congrArg some (by kernel_rfl))
  f217 := Tryz.func128.trans (congrArg some (by kernel_rfl))
  f219 := Tryz.func109.trans (congrArg some (by kernel_rfl))
  f220 := Tryz.func97.trans (congrArg some (by kernel_rfl))
  f224 := Tryz.func130.trans (congrArg some (by kernel_rfl))
  f225 := Tryz.func129.trans (congrArg some (by kernel_rfl))
  f266 := Tryz.func142.trans (congrArg some (by kernel_rfl))
  f267 := Tryz.func131.trans (congrArg some (by kernel_rfl))
  f314 := Tryz.func143.trans (congrArg some (by kernel_rfl))
  t3 := Tryz.underlying3
  a3 := Tryz.isAgg3
  z3 := Tryz.sizeOf3
  v3 := Tryz.zeroValue3
  t4 := Tryz.underlying4
  a4 := Tryz.isAgg4
  z4 := Tryz.sizeOf4
  v4 := Tryz.zeroValue4
  t5 := Tryz.underlying5
  a5 := Tryz.isAgg5
  z5 := Tryz.sizeOf5
  v5 := Tryz.zeroValue5
  t9 := Tryz.underlying9
  a9 := Tryz.isAgg9
  z9 := Tryz.sizeOf9
  v9 := Tryz.zeroValue9
  t46 := Tryz.underlying152
  a46 := Tryz.isAgg152
  z46 := Tryz.sizeOf152
  v46 := Tryz.zeroValue152
  t51 := Tryz.underlying174
  a51 := Tryz.isAgg174
  z51 := Tryz.sizeOf174
  v51 := Tryz.zeroValue174
  t59 := Tryz.underlying103
  a59 := Tryz.isAgg103
  z59 := Tryz.sizeOf103
  v59 := Tryz.zeroValue103
  t146 := Tryz.underlying188
  a146 := Tryz.isAgg188
  z146 := Tryz.sizeOf188
  v146 := Tryz.zeroValue188
  g1 := by kernel_rfl }
open Go.RowKit Go.Lib in
theorem Tryz.strings_Cut (s sep : ByteArray) (m : Int) (w : World) (hs : s.size < 4294967281) (hm : w.cell? ⟨0, 0, none⟩ = some (.int .i64 m)) :
    Calls Tryz.prog 56 #[.string s, .string sep] w fun e w' => e = .returned (.tuple #[.string ⟨(Lib.cut s.data.toList sep.data.toList).1.toArray⟩, .string ⟨(Lib.cut s.data.toList sep.data.toList).2.1.toArray⟩, .bool (Lib.cut s.data.toList sep.data.toList).2.2]) ∧ ∃ n, w' = w.drewN n := Any.strings_Cut Tryz.lays145 s sep m w hs hm
def Tryz.lays138_ren : Go.Shelf.Ren := ⟨fun | 138 => 53 | 195 => 93 | 218 => 94 | 143 => 95 | 219 => 109 | 217 => 128 | 225 => 129 | 224 => 130 | 267 => 131 | 266 => 142 | 314 => 143 | n => n, fun | 9 => 9 | 3 => 3 | 4 => 4 | 5 => 5 | 0 => 0 | 46 => 152 | 146 => 188 | 51 => 174 | n => n, fun | 1 => 0 | n => n⟩
theorem Tryz.lays138 : Go.Proofs.Lays.n138 Tryz.prog Tryz.lays138_ren := {
  mixed := by kernel_rfl
  f138 := Tryz.func53.trans (congrArg some (by kernel_rfl))
  f143 := Tryz.func95.trans (congrArg some (by kernel_rfl))
  f195 := Tryz.func93.trans (congrArg some (by kernel_rfl))
  f217 := Tryz.func128.trans (congrArg some (by kernel_rfl))
  f218 := Tryz.func94.trans (congrArg some (by kernel_rfl))
  f219 := Tryz.func109.trans (congrArg some (by kernel_rfl))
  f224 := Tryz.func130.trans (congrArg some (by kernel_rfl))
  f225 := Tryz.func129.trans (congrArg some (by kernel_rfl))
  f266 := Tryz.func142.trans (congrArg some (by kernel_rfl))
  f267 := Tryz.func131.trans (congrArg some (by kernel_rfl))
  f314 := Tryz.func143.trans (congrArg some (by kernel_rfl))
  t0 := Tryz.underlying0
  a0 := Tryz.isAgg0
  z0 := Tryz.sizeOf0
  v0 := Tryz.zeroValue0
  t3 := Tryz.underlying3
  a3 := Tryz.isAgg3
  z3 := Tryz.sizeOf3
  v3 := Tryz.zeroValue3
  t4 := Tryz.underlying4
  a4 := Tryz.isAgg4
  z4 := Tryz.sizeOf4
  v4 := Tryz.zeroValue4
  t5 := Tryz.underlying5
  a5 := Tryz.isAgg5
  z5 := Tryz.sizeOf5
  v5 := Tryz.zeroValue5
  t9 := Tryz.underlying9
  a9 := Tryz.isAgg9
  z9 := Tryz.sizeOf9
  v9 := Tryz.zeroValue9
  t46 := Tryz.underlying152
  a46 := Tryz.isAgg152
  z46 := Tryz.sizeOf152
  v46 := Tryz.zeroValue152
  t51 := Tryz.underlying174
  a51 := Tryz.isAgg174
  z51 := Tryz.sizeOf174
  v51 := Tryz.zeroValue174
  t146 := Tryz.underlying188
  a146 := Tryz.isAgg188
  z146 := Tryz.sizeOf188
  v146 := Tryz.zeroValue188
  g1 := by kernel_rfl }
open Go.RowKit Go.Lib in
theorem Tryz.strings_Count_one (s : ByteArray) (c : UInt8) (w : World) :
    Calls Tryz.prog 53 #[.string s, .string ⟨#[c]⟩] w fun e w' => e = .returned (.int .i64 (Lib.countByte s.data.toList c)) ∧ w' = w := Any.strings_Count_one Tryz.lays138 s c w
def Tryz.lays190_ren : Go.Shelf.Ren := ⟨fun | 190 => 64 | 125 => 100 | 258 => 99 | 128 => 120 | 129 => 121 | 302 => 111 | 303 => 112 | 304 => 113 | 305 => 114 | 306 => 115 | 307 => 116 | 308 => 117 | 309 => 118 | 310 => 119 | 333 => 132 | 329 => 133 | 330 => 134 | 334 => 135 | 335 => 136 | 336 => 137 | 344 => 144 | n => n, fun | 31 => 68 | 9 => 9 | 3 => 3 | 46 => 152 | 0 => 0 | 51 => 174 | 53 => 158 | 4 => 4 | 183 => 167 | 182 => 166 | 131 => 171 | 5 => 5 | 218 => 182 | 222 => 135 | 228 => 190 | 229 => 191 | n => n, fun | n => n⟩
theorem Tryz.lays190 : Go.Proofs.Lays.n190 Tryz.prog Tryz.lays190_ren := {
  mixed := by kernel_rfl
  f125 := Tryz.func100.trans (congrArg some (by kernel_rfl))
  f128 := Tryz.func120.trans (congrArg some (by kernel_rfl))
  f129 := Tryz.func121.trans (congrArg some (by kernel_rfl))
  f190 := Tryz.func64.trans (congrArg some (by kernel_rfl))
  f258 := Tryz.func99.trans (congrArg some (by kernel_rfl))
  f302 := Tryz.func111.trans (congrArg some (by kernel_rfl))
  f303 := Tryz.func112.trans (congrArg some (by kernel_rfl))
  f304 := Tryz.func113.trans (congrArg some (by kernel_rfl))
  f305 := Tryz.func114.trans (congrArg some (by kernel_rfl))
  f306 := Tryz.func115.trans (congrArg some (by kernel_rfl))
  f307 := Tryz.func116.trans (congrArg some (by kernel_rfl))
  f308 := Tryz.func117.trans (congrArg some (by kernel_rfl))
  f309 := Tryz.func118.trans (congrArg some (by kernel_rfl))
  f310 := Tryz.func119.trans (congrArg some (by kernel_rfl))
  f329 := Tryz.func133.trans (congrArg some (by kernel_rfl))
  f330 := Tryz.func134.trans (congrArg some (by kernel_rfl))
  f333 := Tryz.func132.trans (congrArg some (by kernel_rfl))
  f334 := Tryz.func135.trans (congrArg some (by kernel_rfl))
  f335 := Tryz.func136.trans (congrArg some (by kernel_rfl))
  f336 := Tryz.func137.trans (congrArg some (by kernel_rfl))
  f344 := Tryz.func144.trans (congrArg some (by kernel_rfl))
  t0 := Tryz.underlying0
  a0 := Tryz.isAgg0
  z0 := Tryz.sizeOf0
  v0 := Tryz.zeroValue0
  t3 := Tryz.underlying3
  a3 := Tryz.isAgg3
  z3 := Tryz.sizeOf3
  v3 := Tryz.zeroValue3
  t4 := Tryz.underlying4
  a4 := Tryz.isAgg4
  z4 := Tryz.sizeOf4
  v4 := Tryz.zeroValue4
  t5 := Tryz.underlying5
  a5 := Tryz.isAgg5
  z5 := Tryz.sizeOf5
  v5 := Tryz.zeroValue5
  t9 := Tryz.underlying9
  a9 := Tryz.isAgg9
  z9 := Tryz.sizeOf9
  v9 := Tryz.zeroValue9
  t31 := Tryz.underlying68
  a31 := Tryz.isAgg68
  z31 := Tryz.sizeOf68
  v31 := Tryz.zeroValue68
  t46 := Tryz.underlying152
  a46 := Tryz.isAgg152
  z46 := Tryz.sizeOf152
  v46 := Tryz.zeroValue152
  t51 := Tryz.underlying174
  a51 := Tryz.isAgg174
  z51 := Tryz.sizeOf174
  v51 := Tryz.zeroValue174
  t53 := Tryz.underlying158
  a53 := Tryz.isAgg158
  z53 := Tryz.sizeOf158
  v53 := Tryz.zeroValue158
  t131 := Tryz.underlying171
  a131 := Tryz.isAgg171
  z131 := Tryz.sizeOf171
  v131 := Tryz.zeroValue171
  t182 := Tryz.underlying166
  a182 := Tryz.isAgg166
  z182 := Tryz.sizeOf166
  v182 := Tryz.zeroValue166
  t183 := Tryz.underlying167
  a183 := Tryz.isAgg167
  z183 := Tryz.sizeOf167
  v183 := Tryz.zeroValue167
  t218 := Tryz.underlying182
  a218 := Tryz.isAgg182
  z218 := Tryz.sizeOf182
  v218 := Tryz.zeroValue182
  t222 := Tryz.underlying135
  a222 := Tryz.isAgg135
  z222 := Tryz.sizeOf135
  v222 := Tryz.zeroValue135
  t228 := Tryz.underlying190
  a228 := Tryz.isAgg190
  z228 := Tryz.sizeOf190
  v228 := Tryz.zeroValue190
  t229 := Tryz.underlying191
  a229 := Tryz.isAgg191
  z229 := Tryz.sizeOf191
  v229 := Tryz.zeroValue191 }
open Go.Sort Go.RowKit in
theorem Tryz.slices_Sort_string (blk off cap : Nat) (ss : List (List UInt8)) (w : World) (hH : Holds encStr w blk off ss.toArray) (hblk : blk < w.heap.size) (hsz : ss.length < 4611686018427387904) :
    Calls Tryz.prog 64 #[.slice (some ⟨blk, off, none⟩) ss.length cap] w fun e w' =>
      e = .returned (.tuple #[]) ∧ ∃ n os, w' = grow (putRow encStr (Sort.ahead w n) blk off (ss.mergeSort fun x y => decide (x ≤ y)).toArray) os := Any.slices_Sort_string Tryz.lays190 blk off cap ss w hH hblk hsz
def Tryz.laysGw17_ren : Go.Shelf.Ren := ⟨fun | 17 => 195 | 15 => 197 | 20 => 198 | n => n, fun | 9 => 9 | 23 => 231 | 4 => 4 | 3 => 3 | 0 => 0 | 21 => 21 | n => n, fun | n => n⟩
theorem Tryz.laysGw17 : Go.Proofs.LaysGw.n17 Tryz.prog Tryz.laysGw17_ren := {
  mixed := by kernel_rfl
  f15 := Tryz.func197.trans (congrArg some (by kernel_rfl))
  f17 := Tryz.func195.trans (congrArg some (by kernel_rfl))
  f20 := Tryz.func198.trans (congrArg some (by kernel_rfl))
  t0 := Tryz.underlying0
  a0 := Tryz.isAgg0
  z0 := Tryz.sizeOf0
  v0 := Tryz.zeroValue0
  i0 := by kernel_rfl
  t3 := Tryz.underlying3
  a3 := Tryz.isAgg3
  z3 := Tryz.sizeOf3
  v3 := Tryz.zeroValue3
  i3 := by kernel_rfl
  t4 := Tryz.underlying4
  a4 := Tryz.isAgg4
  z4 := Tryz.sizeOf4
  v4 := Tryz.zeroValue4
  i4 := by kernel_rfl
  t9 := Tryz.underlying9
  a9 := Tryz.isAgg9
  z9 := Tryz.sizeOf9
  v9 := Tryz.zeroValue9
  i9 := by kernel_rfl
  t21 := Tryz.underlying21
  a21 := Tryz.isAgg21
  z21 := Tryz.sizeOf21
  v21 := Tryz.zeroValue21
  i21 := by kernel_rfl
  t23 := Tryz.underlying231
  a23 := Tryz.isAgg231
  z23 := Tryz.sizeOf231
  v23 := Tryz.zeroValue231
  i23 := by kernel_rfl }
open Go.RowKit Go.Lib in
theorem Tryz.strings_ContainsFunc (g : Nat) (lb : Array Value) (eg : ∀ args w, (callFunc g args).run Tryz.prog w = .ok (.enter g args) w) (p : Nat → Bool) (s : ByteArray) (w : World) (hp : PredAt Tryz.prog g lb encR p w) :
    Calls Tryz.prog 195 #[.string s, .func (.func g) #[] lb] w fun e w' => e = .returned (.bool (decide (0 ≤ Lib.idxFunc p true s))) ∧ Below w.heap.size w w' := Any.strings_ContainsFunc Tryz.laysGw17 g lb eg p s w hp
def Tryz.lays100_ren : Go.Shelf.Ren := ⟨fun | 100 => 54 | 207 => 96 | n => n, fun | 9 => 9 | 4 => 4 | 3 => 3 | n => n, fun | n => n⟩
theorem Tryz.lays100 : Go.Proofs.Lays.n100 Tryz.prog Tryz.lays100_ren := {
  mixed := by kernel_rfl
  f100 := Tryz.func54.trans (congrArg some (by kernel_rfl))
  f207 := Tryz.func96.trans (congrArg some (by kernel_rfl))
  t3 := Tryz.underlying3
  a3 := Tryz.isAgg3
  z3 := Tryz.sizeOf3
  v3 := Tryz.zeroValue3
  t4 := Tryz.underlying4
  a4 := Tryz.isAgg4
  z4 := Tryz.sizeOf4
  v4 := Tryz.zeroValue4
  t9 := Tryz.underlying9
  a9 := Tryz.isAgg9
  z9 := Tryz.sizeOf9
  v9 := Tryz.zeroValue9 }
open Go.RowKit Go.Lib in
theorem Tryz.strings_HasSuffix (s p : ByteArray) (w : World) (hs : s.size ≤ 9223372036854775807) :
    Calls Tryz.prog 54 #[.string s, .string p] w fun e w' => e = .returned (.bool (Lib.hasSuffix s.data.toList p.data.toList)) ∧ w' = w := Any.strings_HasSuffix Tryz.lays100 s p w hs
def Tryz.lays146_ren : Go.Shelf.Ren := ⟨fun | 146 => 35 | 221 => 72 | 268 => 103 | 138 => 53 | 143 => 95 | 195 => 93 | 197 => 123 | 218 => 94 | 219 => 109 | 260 => 139 | 217 => 128 | 225 => 129 | 224 => 130 | 267 => 131 | 266 => 142 | 314 => 143 | n => n, fun | 9 => 9 | 31 => 68 | 3 => 3 | 4 => 4 | 0 => 0 | 105 => 175 | 21 => 21 | 5 => 5 | 46 => 152 | 119 => 193 | 139 => 196 | 138 => 195 | 146 => 188 | 51 => 174 | n => n, fun | 1 => 0 | 3 => 2 | 4 => 3 | n => n⟩
theorem Tryz.lays146 : Go.Proofs.Lays.n146 Tryz.prog Tryz.lays146_ren := {
  mixed := by kernel_rfl
  f138 := Tryz.func53.trans (congrArg some (by kernel_rfl))
  f143 := Tryz.func95.trans (congrArg some (by kernel_rfl))
  f146 := Tryz.func35.trans (congrArg some (by kernel_rfl))
  f195 := Tryz.func93.trans (congrArg some (by kernel_rfl))
  f197 := Tryz.func123.trans (congrArg some (by kernel_rfl))
  f217 := Tryz.func128.trans (congrArg some (by kernel_rfl))
  f218 := Tryz.func94.trans (congrArg some (by kernel_rfl))
  f219 := Tryz.func109.trans (congrArg some (by kernel_rfl))
  f221 := Tryz.func72.trans (congrArg some (by kernel_rfl))
  f224 := Tryz.func130.trans (congrArg some (by kernel_rfl))
  f225 := Tryz.func129.trans (congrArg some (by kernel_rfl))
  f260 := Tryz.func139.trans (congrArg some (by kernel_rfl))
  f266 := Tryz.func142.trans (congrArg some (by kernel_rfl))
  f267 := Tryz.func131.trans (congrArg some (by kernel_rfl))
  f268 := Tryz.func103.trans (congrArg some (by kernel_rfl))
  f314 := Tryz.func143.trans (congrArg some (by kernel_rfl))
  t0 := Tryz.underlying0
  a0 := Tryz.isAgg0
  z0 := Tryz.sizeOf0
  v0 := Tryz.zeroValue0
  t3 := Tryz.underlying3
  a3 := Tryz.isAgg3
  z3 := Tryz.sizeOf3
  v3 := Tryz.zeroValue3
  t4 := Tryz.underlying4
  a4 := Tryz.isAgg4
  z4 := Tryz.sizeOf4
  v4 := Tryz.zeroValue4
  t5 := Tryz.underlying5
  a5 := Tryz.isAgg5
  z5 := Tryz.sizeOf5
  v5 := Tryz.zeroValue5
  t9 := Tryz.underlying9
  a9 := Tryz.isAgg9
  z9 := Tryz.sizeOf9
  v9 := Tryz.zeroValue9
  t21 := Tryz.underlying21
  a21 := Tryz.isAgg21
  z21 := Tryz.sizeOf21
  v21 := Tryz.zeroValue21
  t31 := Tryz.underlying68
  a31 := Tryz.isAgg68
  z31 := Tryz.sizeOf68
  v31 := Tryz.zeroValue68
  t46 := Tryz.underlying152
  a46 := Tryz.isAgg152
  z46 := Tryz.sizeOf152
  v46 := Tryz.zeroValue152
  t51 := Tryz.underlying174
  a51 := Tryz.isAgg174
  z51 := Tryz.sizeOf174
  v51 := Tryz.zeroValue174
  t105 := Tryz.underlying175
  a105 := Tryz.isAgg175
  z105 := Tryz.sizeOf175
  v105 := Tryz.zeroValue175
  t119 := Tryz.underlying193
  a119 := Tryz.isAgg193
  z119 := Tryz.sizeOf193
  t138 := Tryz.underlying195
  a138 := Tryz.isAgg195
  z138 := Tryz.sizeOf195
  v138 := Tryz.zeroValue195
  t139 := Tryz.underlying196
  a139 := Tryz.isAgg196
  z139 := Tryz.sizeOf196
  v139 := Tryz.zeroValue196
  t146 := Tryz.underlying188
  a146 := Tryz.isAgg188
  z146 := Tryz.sizeOf188
  v146 := Tryz.zeroValue188
  g1 := by kernel_rfl
  g3 := by kernel_rfl
  g4 := by kernel_rfl }
open Go.RowKit Go.Lib in
theorem Tryz.strings_Split (s sep : ByteArray) (m : Int) (w : World) (hs : s.size < 4294967281) (hm : w.cell? ⟨0, 0, none⟩ = some (.int .i64 m)) (h1 : 1 ≤ sep.size) :
    Calls Tryz.prog 35 #[.string s, .string sep] w fun e w' =>
      e = .returned (.slice (some ⟨w.heap.size, 0, none⟩) (Lib.countB s sep + 1) (Lib.countB s sep + 1)) ∧ w' = w.alloc (.cells ((Lib.splitB sep 0 (Lib.countB s sep) s).map Value.string).toArray 9) := Any.strings_Split Tryz.lays146 (by kernel_rfl) s sep m w hs hm h1
def Tryz.lays111_ren : Go.Shelf.Ren := ⟨fun | 111 => 47 | n => n, fun | 28 => 27 | 3 => 3 | 4 => 4 | 0 => 0 | n => n, fun | n => n⟩
theorem Tryz.lays111 : Go.Proofs.Lays.n111 Tryz.prog Tryz.lays111_ren := {
  mixed := by kernel_rfl
  f111 := Tryz.func47.trans (congrArg some (by kernel_rfl))
  t0 := Tryz.underlying0
  a0 := Tryz.isAgg0
  z0 := Tryz.sizeOf0
  v0 := Tryz.zeroValue0
  t3 := Tryz.underlying3
  a3 := Tryz.isAgg3
  z3 := Tryz.sizeOf3
  v3 := Tryz.zeroValue3
  t4 := Tryz.underlying4
  a4 := Tryz.isAgg4
  z4 := Tryz.sizeOf4
  v4 := Tryz.zeroValue4
  t28 := Tryz.underlying27
  a28 := Tryz.isAgg27
  z28 := Tryz.sizeOf27
  v28 := Tryz.zeroValue27 }
open Go.RowKit Go.Lib in
theorem Tryz.slices_Equal_int (b1 o1 n c b2 o2 m d : Nat) (xs ys : List Int) (w : World) (hx : n ≤ xs.length) (hy : m ≤ ys.length) (hbig : n ≤ 9223372036854775807) (hbig2 : m ≤ 9223372036854775807) (hc1 : ∀ j, j < xs.length → w.cell? ⟨b1, o1 + j, none⟩ = some (.int .i64 (xs.getD j 0))) (hc2 : ∀ j, j < ys.length → w.cell? ⟨b2, o2 + j, none⟩ = some (.int .i64 (ys.getD j 0))) :
    Calls Tryz.prog 47 #[.slice (some ⟨b1, o1, none⟩) n c, .slice (some ⟨b2, o2, none⟩) m d] w fun e w' => e = .returned (.bool (xs.take n == ys.take m)) ∧ ∃ q, w' = w.drewN q := Any.slices_Equal_int Tryz.lays111 b1 o1 n c b2 o2 m d xs ys w hx hy hbig hbig2 hc1 hc2
open Go.RowKit Go.Lib in
theorem Tryz.slices_Equal_int_empty (a1 a2 : Option Addr) (c m d : Nat) (w : World) (hbig2 : m ≤ 9223372036854775807) :
    Calls Tryz.prog 47 #[.slice a1 0 c, .slice a2 m d] w fun e w' => e = .returned (.bool (decide (m = 0))) ∧ w' = w := Any.slices_Equal_int_empty Tryz.lays111 a1 a2 c m d w hbig2
def Tryz.lays194_ren : Go.Shelf.Ren := ⟨fun | 194 => 65 | n => n, fun | 31 => 68 | 9 => 9 | 3 => 3 | 4 => 4 | 0 => 0 | n => n, fun | n => n⟩
theorem Tryz.lays194 : Go.Proofs.Lays.n194 Tryz.prog Tryz.lays194_ren := {
  mixed := by kernel_rfl
  f194 := Tryz.func65.trans (congrArg some (by kernel_rfl))
  t0 := Tryz.underlying0
  a0 := Tryz.isAgg0
  z0 := Tryz.sizeOf0
  v0 := Tryz.zeroValue0
  t3 := Tryz.underlying3
  a3 := Tryz.isAgg3
  z3 := Tryz.sizeOf3
  v3 := Tryz.zeroValue3
  t4 := Tryz.underlying4
  a4 := Tryz.isAgg4
  z4 := Tryz.sizeOf4
  v4 := Tryz.zeroValue4
  t9 := Tryz.underlying9
  a9 := Tryz.isAgg9
  z9 := Tryz.sizeOf9
  v9 := Tryz.zeroValue9
  t31 := Tryz.underlying68
  a31 := Tryz.isAgg68
  z31 := Tryz.sizeOf68
  v31 := Tryz.zeroValue68 }
open Go.RowKit Go.Lib Go.Sort in
theorem Tryz.slices_Compact_string (blk off cap : Nat) (zs : List (List UInt8)) (w : World) (hH : Holds encStr w blk off zs.toArray) (hsz : zs.length ≤ 9223372036854775807) (hcap : zs.length ≤ cap) :
    Calls Tryz.prog 65 #[.slice (some ⟨blk, off, none⟩) zs.length cap] w fun e w' => e = .returned (.slice (some ⟨blk, off, none⟩) (Lib.compact zs).length cap) ∧ ∃ q, w' = putRow encStr (Sort.ahead w q) blk off (Lib.compact zs ++ List.replicate (zs.length - (Lib.compact zs).length) []).toArray := Any.slices_Compact_string Tryz.lays194 blk off cap zs w hH hsz hcap
open Go.RowKit Go.Lib Go.Sort in
theorem Tryz.slices_Compact_string_empty (a : Option Addr) (cap : Nat) (w : World) :
    Calls Tryz.prog 65 #[.slice a 0 cap] w fun e w' => e = .returned (.slice a 0 cap) ∧ w' = w := Any.slices_Compact_string_empty Tryz.lays194 a cap w
open Go.RowKit Go.Sort in
theorem Tryz.slices_Sort_string_none (p : Option Addr) (cap : Nat) (w : World) :
    Calls Tryz.prog 64 #[.slice p 0 cap] w fun e w' => e = .returned (.tuple #[]) ∧ w' = w := Any.slices_Sort_string_none Tryz.lays190 p cap w
open Go.RowKit Go.Lib in
theorem Tryz.slices_Equal_int_lens (a1 a2 : Option Addr) (n c m d : Nat) (w : World) (hnm : n ≠ m) :
    Calls Tryz.prog 47 #[.slice a1 n c, .slice a2 m d] w fun e w' => e = .returned (.bool false) ∧ w' = w := Any.slices_Equal_int_lens Tryz.lays111 a1 a2 n c m d w hnm
def Tryz.lays115_ren : Go.Shelf.Ren := ⟨fun | 115 => 46 | n => n, fun | 37 => 23 | 4 => 4 | 9 => 9 | 5 => 5 | n => n, fun | n => n⟩
theorem Tryz.lays115 : Go.Proofs.Lays.n115 Tryz.prog Tryz.lays115_ren := {
  mixed := by kernel_rfl
  f115 := Tryz.func46.trans (congrArg some (by kernel_rfl))
  t4 := Tryz.underlying4
  a4 := Tryz.isAgg4
  z4 := Tryz.sizeOf4
  v4 := Tryz.zeroValue4
  t9 := Tryz.underlying9
  a9 := Tryz.isAgg9
  z9 := Tryz.sizeOf9
  v9 := Tryz.zeroValue9
  t37 := Tryz.underlying23
  a37 := Tryz.isAgg23
  z37 := Tryz.sizeOf23
  v37 := Tryz.zeroValue23 }
theorem Tryz.bytes_Equal (v1 v2 : Value) (xs ys : List Int) (w : World) (h1 : (convert 23 9 v1).run Tryz.prog w = .ok (.string (strOfNums xs)) w) (h2 : (convert 23 9 v2).run Tryz.prog w = .ok (.string (strOfNums ys)) w) :
    Calls Tryz.prog 46 #[v1, v2] w fun e w' => e = .returned (.bool (Lib.bytesOf xs == Lib.bytesOf ys)) ∧ w' = w := Any.bytes_Equal Tryz.lays115 v1 v2 xs ys w h1 h2
end Go.Proofs
namespace Go.Proofs.YtbfbjgakmnckbaaGreatDoor
open Go Go.RowKit Eng
attribute [local irreducible] Br Rn RnU Cl RdG CpG Ld Rd Lp Dr Oth Cut fin Fits Eng.Enters Md NA

/-- The table that numerals are made with, as it was laid. -/
def PW (w : World) : Prop := Lib.TabIs Tryz.prog w "internal/strconv.uint64pow10" .u64 Lib.pow10Tab
/-- The number's numeral is Go's: the table is as it was laid, or it is not read. -/
def NumOk (w : World) (n : Int) : Prop := (-9223372036854775808 ≤ n ∧ n ≤ 9223372036854775807) ∧ (PW w ∨ (0 ≤ n ∧ n < 100))
theorem var_fr {P : Program} {w w' : World} (h : Fr (fun _ => False) w w') {n : String} {cs : Array Value} (hv : w.var? P n = some cs) : w'.var? P n = some cs := by
 unfold World.var? at hv ⊢
 cases hg : P.globalNamed n with
 | none => rw [hg] at hv; cases hv
 | some g =>
  rw [hg] at hv
  simp only [Option.bind_some] at hv ⊢
  cases hb : w.heap[g]? with
  | none => rw [hb] at hv; cases hv
  | some o => rw [h.block g (Array.getElem?_eq_some_iff.1 hb).1 id]; rw [hb] at hv ⊢; exact hv
theorem NumOk.fr {w w' : World} {n : Int} (h : NumOk w n) (hf : Fr (fun _ => False) w w') : NumOk w' n := ⟨h.1, h.2.imp (var_fr hf) id⟩
theorem grow_fr (w : World) (k : Nat) (os : Array Obj) : Fr (fun _ => False) w (Sort.grow (w.drewN k) os) :=
 ⟨rfl, rfl, rfl, by show w.heap.size ≤ (w.heap ++ os).size; rw [Array.size_append]; omega, fun j hj _ => by
  show (w.heap ++ os)[j]? = _
  rw [Array.getElem?_append_left hj]⟩
theorem itoa_small {n : Int} (h0 : 0 ≤ n) : Lib.itoa n = Lib.decDigits n.toNat := by
 unfold Lib.itoa
 rw [if_neg (by omega)]
theorem itoa_any (n : Int) (w : World) (hn : NumOk w n) :
  Calls Tryz.prog 50 #[.int .i64 n] w fun e w' => e = .returned (.string (Str (Lib.itoa n))) ∧ Fr (fun _ => False) w w' := by
 rcases hn.2 with hp | ⟨h0, h1⟩
 ·refine (Tryz.strconv_Itoa n hn.1.1 hn.1.2 w hp).mono ?_
  rintro e w' ⟨rfl, k, os, rfl⟩
  exact ⟨rfl, grow_fr w k os⟩
 ·have := Tryz.strconv_Itoa_small n.toNat (by omega) w
  rw [Int.toNat_of_nonneg h0] at this
  refine this.mono ?_
  rintro e w' ⟨rfl, rfl⟩
  exact ⟨by rw [itoa_small h0], Fr.refl _ _⟩
theorem fmt_any (n : Int) (w : World) (hn : NumOk w n) :
  Calls Tryz.prog 49 #[.int .i64 n, .int .i64 10] w fun e w' => e = .returned (.string (Str (Lib.itoa n))) ∧ Fr (fun _ => False) w w' := by
 rcases hn.2 with hp | ⟨h0, h1⟩
 ·refine (Tryz.strconv_FormatInt_10 n hn.1.1 hn.1.2 w hp).mono ?_
  rintro e w' ⟨rfl, k, os, rfl⟩
  exact ⟨rfl, grow_fr w k os⟩
 ·have := Tryz.strconv_FormatInt_10_small n.toNat (by omega) w
  rw [Int.toNat_of_nonneg h0] at this
  refine this.mono ?_
  rintro e w' ⟨rfl, rfl⟩
  exact ⟨by rw [itoa_small h0], Fr.refl _ _⟩

/-! ## names -/
def badRune (x : Nat) : Bool := decide ((x : Int) < 33) || decide (126 < (x : Int))
theorem idx_names (s : ByteArray) : ∀ (f pos : Nat), s.size ≤ pos + f → (0 ≤ Lib.idxFuncFrom badRune true s f pos ↔ ∃ j, pos ≤ j ∧ j < s.size ∧ okByte (s.data.toList.getD j 0) = false)
 | 0, pos, h => by
  constructor
  ·intro h0; exact absurd h0 (by simp [Lib.idxFuncFrom])
  ·rintro ⟨j, h1, h2, _⟩; omega
 | f + 1, pos, h => by
  by_cases hp : pos < s.size
  ·have hb : s.data.toList.getD pos 0 = s[pos] := by
    have : pos < s.data.toList.length := by simpa using hp
    rw [List.getD, List.getElem?_eq_getElem this]
    rfl
   rw [Lib.idxFuncFrom, if_pos hp]
   by_cases h128 : s[pos].toNat < 128
   ·have hd := decode_ascii s pos hp h128
    rw [hd]
    simp only
    by_cases ho : okByte s[pos] = true
    ·have hbad : badRune s[pos].toNat = false := by
      simp only [okByte, Bool.and_eq_true, decide_eq_true_eq] at ho
      simp only [badRune, Bool.or_eq_false_iff, decide_eq_false_iff_not]
      omega
     rw [hbad, if_neg (by decide), idx_names s f (pos + 1) (by omega)]
     constructor
     ·rintro ⟨j, h1, h2, h3⟩; exact ⟨j, by omega, h2, h3⟩
     ·rintro ⟨j, h1, h2, h3⟩
      refine ⟨j, ?_, h2, h3⟩
      rcases Nat.lt_or_ge pos j with hh | hh
      ·omega
      ·have : j = pos := by omega
       subst this
       rw [hb, ho] at h3; cases h3
    ·have ho : okByte s[pos] = false := by simpa using ho
     have hbad : badRune s[pos].toNat = true := by
      simp only [okByte, Bool.and_eq_false_iff, decide_eq_false_iff_not] at ho
      simp only [badRune, Bool.or_eq_true, decide_eq_true_eq]
      omega
     rw [hbad, if_pos rfl]
     exact ⟨fun _ => ⟨pos, Nat.le_refl _, hp, by rw [hb]; exact ho⟩, fun _ => by omega⟩
   ·have hd := decode_high s pos hp (by omega)
    have hbad : badRune (Utf8.decode s pos).1 = true := by
     simp only [badRune, Bool.or_eq_true, decide_eq_true_eq]
     omega
    rw [hbad, if_pos rfl]
    refine ⟨fun _ => ⟨pos, Nat.le_refl _, hp, ?_⟩, fun _ => by omega⟩
    rw [hb]
    simp only [okByte, Bool.and_eq_false_iff, decide_eq_false_iff_not]
    omega
  ·rw [Lib.idxFuncFrom_end _ _ _ _ _ hp]
   constructor
   ·intro h0; omega
   ·rintro ⟨j, h1, h2, _⟩; omega
theorem idx_all (s : ByteArray) : decide (0 ≤ Lib.idxFunc badRune true s) = !s.data.toList.all okByte := by
 have h := idx_names s s.size 0 (by omega)
 by_cases h0 : 0 ≤ Lib.idxFunc badRune true s
 ·obtain ⟨j, _, h2, h3⟩ := h.1 h0
  rw [all_getD_f okByte h2 h3, decide_eq_true h0]; rfl
 ·rw [decide_eq_false h0, all_getD okByte]
  ·rfl
  ·intro j hj
   cases ho : okByte (s.data.toList.getD j 0) with
   | true => rfl
   | false => exact absurd (h.2 ⟨j, by omega, hj, ho⟩) h0
theorem named1_enters : ∀ (args : Array Value) (w : World), (callFunc 196 args).run Tryz.prog w = .ok (.enter 196 args) w := fun _ _ => by kernel_rfl
theorem named1_any (x : Nat) (w : World) : Calls Tryz.prog 196 #[.int .i32 x] w fun e w' => e = .returned (.bool (badRune x)) ∧ w' = w := by
 by_cases h1 : (x : Int) < 33
 ·go_enter Tryz.func196, Tryz.ntmps196
  go_wp2
  go_ret
  exact ⟨by simp [badRune, h1], rfl⟩
 ·have hb : badRune x = decide (126 < (x : Int)) := by simp [badRune, h1]
  go_enter Tryz.func196, Tryz.ntmps196
  go_wp2
  go_ret
  exact ⟨rfl, rfl⟩
theorem contains_any (s : ByteArray) (w : World) : Calls Tryz.prog 195 #[.string s, .func (.func 196) #[] #[]] w fun e w' => e = .returned (.bool (!s.data.toList.all okByte)) ∧ Fr (fun _ => False) w w' := by
 refine (Tryz.strings_ContainsFunc _ #[] named1_enters badRune s w (fun W x _ => (named1_any x W).mono ?_)).mono ?_
 ·rintro e w' ⟨rfl, rfl⟩
  exact ⟨rfl, 0, rfl⟩
 ·rintro e w' ⟨rfl, hb⟩
  exact ⟨by rw [idx_all], Fr.of_below hb (Nat.le_refl _)⟩
theorem contains_enters : Eng.Enters Tryz.prog 195 := enters_mk fun _ _ => by kernel_rfl
set_option maxRecDepth 100000 in
theorem named_any (s : ByteArray) (w : World) (hs : s.size ≤ 140737488355328) :
  Calls Tryz.prog 194 #[.string s] w fun e w' => e = .returned (.bool (nameB s)) ∧ Fr (fun _ => False) w w' := by
 refine enter (cx := ⟨Tryz.prog, 19, w, fun _ => False, tab, [], [195], [], []⟩) [(0, .string s)] tab_ok Tryz.func194 rfl rfl rfl rfl (MemOk.nil w _) ?_
 conv => whnf
 (repeat ((first | refine stp (by (repeat constructor); first | done | fail) ?_ | refine stn (by (repeat constructor); first | done | fail) ?_ | refine sto (by (repeat constructor); first | done | fail) (by first | omega | (simp only; omega)) ?_ | refine .mk fun Ap capp => ?_ | refine ⟨?_, trivial⟩ | intro _); conv => whnf))
 refine ⟨_, cpg contains_enters (fun _ w' _ => contains_any s w'), ?_⟩
 conv => whnf
 (repeat ((first | refine stp (by (repeat constructor); first | done | fail) ?_ | refine stn (by (repeat constructor); first | done | fail) ?_ | refine sto (by (repeat constructor); first | done | fail) (by first | omega | (simp only; omega)) ?_ | refine .mk fun Ap capp => ?_ | refine ⟨?_, trivial⟩ | intro _); conv => whnf))
 refine fin1 rfl rfl (fun w' hm => ⟨ret_bool ?_, hm.fr⟩)
 have e1 : decide (0 < (s.size : Int)) = !decide (s = ⟨#[]⟩) := by
  by_cases h : s = ⟨#[]⟩
  ·subst h; rfl
  ·have : s.size ≠ 0 := fun h0 => h (by cases s; rename_i d; simp only [ByteArray.size] at h0; simp [Array.eq_empty_of_size_eq_zero h0])
   rw [decide_eq_true (by omega), decide_eq_false h]; rfl
 rw [nameB, e1, Bool.not_not]
 cases List.all s.data.toList okByte <;> cases decide (s = ⟨#[]⟩) <;> cases decide (s = ⟨#[45]⟩) <;> cases decide ((s.size : Int) ≤ 64) <;> rfl
theorem itoa_enters : Eng.Enters Tryz.prog 50 := enters_mk fun _ _ => by kernel_rfl
theorem fmt_enters : Eng.Enters Tryz.prog 49 := enters_mk fun _ _ => by kernel_rfl
theorem named_enters : Eng.Enters Tryz.prog 194 := enters_mk fun _ _ => by kernel_rfl
end Go.Proofs.YtbfbjgakmnckbaaGreatDoor
namespace Go.Proofs.YtbfbjgakmnckbaaGreatDoor
open Go Go.RowKit Eng
attribute [local irreducible] Br Rn RnU Cl RdG CpG Ld Rd Lp Dr Oth Cut fin Fits Eng.Enters Md NA

/-- A teller's memory, and the act that it tells. -/
abbrev TM (tB : Nat) (A : Option Addr) (cap n : Nat) (xs : List Value) (aB : Nat) (x : PAct) (bA pA : Option Addr) (bc pc : Nat) : Mem :=
 [.blk tB (.cells #[.slice A n cap] 125), .row A cap n 9 1 xs, .blk aB (.cells (actL x bA bc pA pc).toArray 29)]
/-- What is given up. -/
def refusal (n : Int) : List PanicEntry := [{ v := .iface 145 (.agg #[.int .i64 n]), recovered := false }]
theorem say_enters : Eng.Enters Tryz.prog 191 := enters_mk fun _ _ => by kernel_rfl
def getName (o : Nat) (x : PAct) : ByteArray := if o = 1 then x.name else if o = 2 then x.other else x.third
def setName (o : Nat) (s : ByteArray) (x : PAct) : PAct := if o = 1 then { x with name := s } else if o = 2 then { x with other := s } else { x with third := s }
def getInt (o : Nat) (x : PAct) : Int := if o = 4 then x.at_ else if o = 5 then x.n else if o = 7 then x.bits else x.order
def setInt (o : Nat) (s : Int) (x : PAct) : PAct := if o = 4 then { x with at_ := s } else if o = 5 then { x with n := s } else if o = 7 then { x with bits := s } else { x with order := s }

section
variable (tB : Nat) (A : Option Addr) (cap n : Nat) (xs : List Value) (aB : Nat) (x : PAct) (bA pA : Option Addr) (bc pc : Nat) (w : World) (hn : n ≤ 1000000000) (hm : MemOk w (Foot (TM tB A cap n xs aB x bA pA bc pc)) (TM tB A cap n xs aB x bA pA bc pc) w)
include hn hm

set_option maxRecDepth 100000 in
theorem tlong_any (o : Nat) (ho : o = 4 ∨ o = 5) (hv : Stb (TM tB A cap n xs aB x bA pA bc pc) w (fun w => NumOk w (getInt o x))) :
  Ctr Tryz.prog 188 [.pointer (some ⟨tB, 0, none⟩), .pointer (some ⟨aB, o, none⟩)] (TM tB A cap n xs aB x bA pA bc pc) (fun e m' => e = .returned (.tuple #[]) ∧ ∃ A' cap', m' = TM tB A' cap' (n + 1) (xs ++ [.string (Str (Lib.itoa (getInt o x)))]) aB (setInt o 0 x) bA pA bc pc) w := by
 rcases ho with rfl | rfl <;>
 ·refine enter (cx := CXS 12 [] w (Foot (TM tB A cap n xs aB x bA pA bc pc))) [(0, .pointer (some ⟨tB, 0, none⟩)), (1, .pointer (some ⟨aB, _, none⟩))] tab_ok Tryz.func188 rfl rfl rfl rfl hm ?_
  conv => whnf
  (repeat ((first | (refine ⟨say_enters, cl_mem (by (repeat constructor); first | done | fail) (fun w' hm' => say_any _ _ _ _ _ _ w' (by omega) hm'.part) ?_⟩; rintro e m' ⟨rfl, A', cap', rfl⟩) | refine ⟨fmt_enters, cl_same _ (fun w' hm' => fmt_any _ w' (hv w' hm'.fr)) ?_⟩ | refine stp (by (repeat constructor); first | done | fail) ?_ | refine stn (by (repeat constructor); first | done | fail) ?_ | refine sto (by (repeat constructor); first | done | fail) (by first | omega | (simp only; omega)) ?_ | refine .mk fun Ap capp => ?_ | refine ⟨?_, trivial⟩ | intro _); conv => whnf))
  refine fin0 rfl (fun w' hm => ?_) (by first | exact .inr rfl | exact .inl rfl)
  exact ⟨_, ⟨rfl, _, _, rfl⟩, hm.sel (by (repeat constructor); first | done | fail)⟩

set_option maxRecDepth 100000 in
theorem twhole_any (o : Nat) (ho : o = 7 ∨ o = 8) (hv : Stb (TM tB A cap n xs aB x bA pA bc pc) w (fun w => NumOk w (getInt o x))) :
  Ctr Tryz.prog 192 [.pointer (some ⟨tB, 0, none⟩), .pointer (some ⟨aB, o, none⟩)] (TM tB A cap n xs aB x bA pA bc pc) (fun e m' => e = .returned (.tuple #[]) ∧ ∃ A' cap', m' = TM tB A' cap' (n + 1) (xs ++ [.string (Str (Lib.itoa (getInt o x)))]) aB (setInt o 0 x) bA pA bc pc) w := by
 rcases ho with rfl | rfl <;>
 ·refine enter (cx := CXS 12 [] w (Foot (TM tB A cap n xs aB x bA pA bc pc))) [(0, .pointer (some ⟨tB, 0, none⟩)), (1, .pointer (some ⟨aB, _, none⟩))] tab_ok Tryz.func192 rfl rfl rfl rfl hm ?_
  conv => whnf
  (repeat ((first | (refine ⟨say_enters, cl_mem (by (repeat constructor); first | done | fail) (fun w' hm' => say_any _ _ _ _ _ _ w' (by omega) hm'.part) ?_⟩; rintro e m' ⟨rfl, A', cap', rfl⟩) | refine ⟨itoa_enters, cl_same _ (fun w' hm' => itoa_any _ w' (hv w' hm'.fr)) ?_⟩ | refine stp (by (repeat constructor); first | done | fail) ?_ | refine stn (by (repeat constructor); first | done | fail) ?_ | refine sto (by (repeat constructor); first | done | fail) (by first | omega | (simp only; omega)) ?_ | refine .mk fun Ap capp => ?_ | refine ⟨?_, trivial⟩ | intro _); conv => whnf))
  refine fin0 rfl (fun w' hm => ?_) (by first | exact .inr rfl | exact .inl rfl)
  exact ⟨_, ⟨rfl, _, _, rfl⟩, hm.sel (by (repeat constructor); first | done | fail)⟩

set_option maxRecDepth 100000 in
theorem tflag_any (yes no : ByteArray) :
  Ctr Tryz.prog 187 [.pointer (some ⟨tB, 0, none⟩), .pointer (some ⟨aB, 9, none⟩), .string yes, .string no] (TM tB A cap n xs aB x bA pA bc pc) (fun e m' => e = .returned (.tuple #[]) ∧ ∃ A' cap', m' = TM tB A' cap' (n + 1) (xs ++ [.string (if x.on then yes else no)]) aB { x with on := false } bA pA bc pc) w := by
 refine enter (cx := CXS 17 [] w (Foot (TM tB A cap n xs aB x bA pA bc pc))) [(0, .pointer (some ⟨tB, 0, none⟩)), (1, .pointer (some ⟨aB, 9, none⟩)), (2, .string yes), (3, .string no)] tab_ok Tryz.func187 rfl rfl rfl rfl hm ?_
 conv => whnf
 (repeat ((first | refine stp (by (repeat constructor); first | done | fail) ?_ | refine stn (by (repeat constructor); first | done | fail) ?_ | refine sto (by (repeat constructor); first | done | fail) (by first | omega | (simp only; omega)) ?_ | refine .mk fun Ap capp => ?_ | refine ⟨?_, trivial⟩ | intro _); conv => whnf))
 refine br (fun hb => ?_) (fun hb => ?_) <;>
 ·conv => whnf
  (repeat ((first | (refine ⟨say_enters, cl_mem (by (repeat constructor); first | done | fail) (fun w' hm' => say_any _ _ _ _ _ _ w' (by omega) hm'.part) ?_⟩; rintro e m' ⟨rfl, A', cap', rfl⟩) | refine stp (by (repeat constructor); first | done | fail) ?_ | refine stn (by (repeat constructor); first | done | fail) ?_ | refine sto (by (repeat constructor); first | done | fail) (by first | omega | (simp only; omega)) ?_ | refine .mk fun Ap capp => ?_ | refine ⟨?_, trivial⟩ | intro _); conv => whnf))
  refine fin0 rfl (fun w' hm => ?_) (by first | exact .inr rfl | exact .inl rfl)
  rw [hb]
  exact ⟨_, ⟨rfl, _, _, rfl⟩, hm.sel (by (repeat constructor); first | done | fail)⟩

set_option maxRecDepth 100000 in
theorem tname_any (o : Nat) (ho : o = 1 ∨ o = 2 ∨ o = 3) (hs : (getName o x).size ≤ 140737488355328) :
  Ctr Tryz.prog 189 [.pointer (some ⟨tB, 0, none⟩), .pointer (some ⟨aB, o, none⟩), .bool false] (TM tB A cap n xs aB x bA pA bc pc) (fun e m' => (nameB (getName o x) = false ∧ e = .panicked (refusal 2)) ∨ (nameB (getName o x) = true ∧ e = .returned (.tuple #[]) ∧ ∃ A' cap', m' = TM tB A' cap' (n + 1) (xs ++ [.string (getName o x)]) aB (setName o (Str []) x) bA pA bc pc)) w := by
 rcases ho with rfl | rfl | rfl <;>
 ·refine enter (cx := CXS 29 [] w (Foot (TM tB A cap n xs aB x bA pA bc pc))) [(0, .pointer (some ⟨tB, 0, none⟩)), (1, .pointer (some ⟨aB, _, none⟩)), (2, .bool false)] tab_ok Tryz.func189 rfl rfl rfl rfl hm ?_
  conv => whnf
  (repeat ((first | refine stp (by (repeat constructor); first | done | fail) ?_ | refine stn (by (repeat constructor); first | done | fail) ?_ | refine sto (by (repeat constructor); first | done | fail) (by first | omega | (simp only; omega)) ?_ | refine .mk fun Ap capp => ?_ | refine ⟨?_, trivial⟩ | intro _); conv => whnf))
  refine br_f rfl ?_
  conv => whnf
  (repeat ((first | refine ⟨named_enters, cl_same _ (fun w' hm' => named_any _ w' hs) ?_⟩ | refine stp (by (repeat constructor); first | done | fail) ?_ | refine stn (by (repeat constructor); first | done | fail) ?_ | refine sto (by (repeat constructor); first | done | fail) (by first | omega | (simp only; omega)) ?_ | refine .mk fun Ap capp => ?_ | refine ⟨?_, trivial⟩ | intro _); conv => whnf))
  refine br_n (br (fun hb => ?_) (fun hb => ?_))
  ·conv => whnf
   (repeat ((first | (refine ⟨say_enters, cl_mem (by (repeat constructor); first | done | fail) (fun w' hm' => say_any _ _ _ _ _ _ w' (by omega) hm'.part) ?_⟩; rintro e m' ⟨rfl, A', cap', rfl⟩) | refine stp (by (repeat constructor); first | done | fail) ?_ | refine stn (by (repeat constructor); first | done | fail) ?_ | refine sto (by (repeat constructor); first | done | fail) (by first | omega | (simp only; omega)) ?_ | refine .mk fun Ap capp => ?_ | refine ⟨?_, trivial⟩ | intro _); conv => whnf))
   refine fin0 rfl (fun w' hm => ?_) (by first | exact .inr rfl | exact .inl rfl)
   exact ⟨_, .inr ⟨hb, rfl, _, _, rfl⟩, hm.sel (by (repeat constructor); first | done | fail)⟩
  ·conv => whnf
   (repeat ((first | refine stp (by (repeat constructor); first | done | fail) ?_ | refine stn (by (repeat constructor); first | done | fail) ?_ | refine sto (by (repeat constructor); first | done | fail) (by first | omega | (simp only; omega)) ?_ | refine .mk fun Ap capp => ?_ | refine ⟨?_, trivial⟩ | intro _); conv => whnf))
   exact fin_panic (fun w' hm => ⟨_, .inl ⟨hb, rfl⟩, hm⟩)

set_option maxRecDepth 100000 in
theorem toname_any (hs : x.other.size ≤ 140737488355328) :
  Ctr Tryz.prog 189 [.pointer (some ⟨tB, 0, none⟩), .pointer (some ⟨aB, 2, none⟩), .bool true] (TM tB A cap n xs aB x bA pA bc pc) (fun e m' => (x.other ≠ Str [] ∧ nameB x.other = false ∧ e = .panicked (refusal 2)) ∨ ((x.other = Str [] ∨ nameB x.other = true) ∧ e = .returned (.tuple #[]) ∧ ∃ A' cap', m' = TM tB A' cap' (n + 1) (xs ++ [.string (if x.other = Str [] then Str [45] else x.other)]) aB { x with other := Str [] } bA pA bc pc)) w := by
 refine enter (cx := CXS 29 [] w (Foot (TM tB A cap n xs aB x bA pA bc pc))) [(0, .pointer (some ⟨tB, 0, none⟩)), (1, .pointer (some ⟨aB, 2, none⟩)), (2, .bool true)] tab_ok Tryz.func189 rfl rfl rfl rfl hm ?_
 conv => whnf
 (repeat ((first | refine stp (by (repeat constructor); first | done | fail) ?_ | refine stn (by (repeat constructor); first | done | fail) ?_ | refine sto (by (repeat constructor); first | done | fail) (by first | omega | (simp only; omega)) ?_ | refine .mk fun Ap capp => ?_ | refine ⟨?_, trivial⟩ | intro _); conv => whnf))
 refine br (fun hb => ?_) (fun hb => ?_)
 ·have ho : x.other = Str [] := of_decide_eq_true hb
  conv => whnf
  (repeat ((first | (refine ⟨say_enters, cl_mem (by (repeat constructor); first | done | fail) (fun w' hm' => say_any _ _ _ _ _ _ w' (by omega) hm'.part) ?_⟩; rintro e m' ⟨rfl, A', cap', rfl⟩) | refine stp (by (repeat constructor); first | done | fail) ?_ | refine stn (by (repeat constructor); first | done | fail) ?_ | refine sto (by (repeat constructor); first | done | fail) (by first | omega | (simp only; omega)) ?_ | refine .mk fun Ap capp => ?_ | refine ⟨?_, trivial⟩ | intro _); conv => whnf))
  refine fin0 rfl (fun w' hm => ?_) (by first | exact .inr rfl | exact .inl rfl)
  rw [if_pos ho]
  have hx : { x with other := Str [] } = x := by rw [← ho]
  rw [hx]
  exact ⟨_, .inr ⟨.inl ho, rfl, _, _, rfl⟩, hm.sel (by (repeat constructor); first | done | fail)⟩
 ·have ho : x.other ≠ Str [] := of_decide_eq_false hb
  rw [if_neg ho]
  conv => whnf
  (repeat ((first | refine ⟨named_enters, cl_same _ (fun w' hm' => named_any _ w' hs) ?_⟩ | refine stp (by (repeat constructor); first | done | fail) ?_ | refine stn (by (repeat constructor); first | done | fail) ?_ | refine sto (by (repeat constructor); first | done | fail) (by first | omega | (simp only; omega)) ?_ | refine .mk fun Ap capp => ?_ | refine ⟨?_, trivial⟩ | intro _); conv => whnf))
  refine br_n (br (fun hb => ?_) (fun hb => ?_))
  ·conv => whnf
   (repeat ((first | (refine ⟨say_enters, cl_mem (by (repeat constructor); first | done | fail) (fun w' hm' => say_any _ _ _ _ _ _ w' (by omega) hm'.part) ?_⟩; rintro e m' ⟨rfl, A', cap', rfl⟩) | refine stp (by (repeat constructor); first | done | fail) ?_ | refine stn (by (repeat constructor); first | done | fail) ?_ | refine sto (by (repeat constructor); first | done | fail) (by first | omega | (simp only; omega)) ?_ | refine .mk fun Ap capp => ?_ | refine ⟨?_, trivial⟩ | intro _); conv => whnf))
   refine fin0 rfl (fun w' hm => ?_) (by first | exact .inr rfl | exact .inl rfl)
   exact ⟨_, .inr ⟨.inr hb, rfl, _, _, rfl⟩, hm.sel (by (repeat constructor); first | done | fail)⟩
  ·conv => whnf
   (repeat ((first | refine stp (by (repeat constructor); first | done | fail) ?_ | refine stn (by (repeat constructor); first | done | fail) ?_ | refine sto (by (repeat constructor); first | done | fail) (by first | omega | (simp only; omega)) ?_ | refine .mk fun Ap capp => ?_ | refine ⟨?_, trivial⟩ | intro _); conv => whnf))
   exact fin_panic (fun w' hm => ⟨_, .inl ⟨ho, hb, rfl⟩, hm⟩)

set_option maxRecDepth 100000 in
theorem tfate_any (hv : Stb (TM tB A cap n xs aB x bA pA bc pc) w (fun w => NumOk w x.keep)) :
  Ctr Tryz.prog 186 [.pointer (some ⟨tB, 0, none⟩), .pointer (some ⟨aB, 10, none⟩)] (TM tB A cap n xs aB x bA pA bc pc) (fun e m' => ((x.fk < 0 ∨ 2 < x.fk) ∧ e = .panicked (refusal 2)) ∨ (x.fk = 0 ∧ e = .returned (.tuple #[]) ∧ ∃ A' cap', m' = TM tB A' cap' (n + 1) (xs ++ [.string (Str wGood)]) aB x bA pA bc pc) ∨
   ((x.fk = 1 ∨ x.fk = 2) ∧ e = .returned (.tuple #[]) ∧ ∃ A' cap', m' = TM tB A' cap' (n + 2) (xs ++ [.string (Str (if x.fk = 1 then wFail else wFull)), .string (Str (Lib.itoa x.keep))]) aB { x with fk := 0, keep := 0 } bA pA bc pc)) w := by
 refine enter (cx := CXS 32 [] w (Foot (TM tB A cap n xs aB x bA pA bc pc))) [(0, .pointer (some ⟨tB, 0, none⟩)), (1, .pointer (some ⟨aB, 10, none⟩))] tab_ok Tryz.func186 rfl rfl rfl rfl hm ?_
 conv => whnf
 (repeat ((first | refine stp (by (repeat constructor); first | done | fail) ?_ | refine stn (by (repeat constructor); first | done | fail) ?_ | refine sto (by (repeat constructor); first | done | fail) (by first | omega | (simp only; omega)) ?_ | refine .mk fun Ap capp => ?_ | refine ⟨?_, trivial⟩ | intro _); conv => whnf))
 refine br_d (fun h0 => ?_) (fun h0 => ?_)
 ·conv => whnf
  (repeat ((first | (refine ⟨say_enters, cl_mem (by (repeat constructor); first | done | fail) (fun w' hm' => say_any _ _ _ _ _ _ w' (by omega) hm'.part) ?_⟩; rintro e m' ⟨rfl, A', cap', rfl⟩) | refine stp (by (repeat constructor); first | done | fail) ?_ | refine stn (by (repeat constructor); first | done | fail) ?_ | refine sto (by (repeat constructor); first | done | fail) (by first | omega | (simp only; omega)) ?_ | refine .mk fun Ap capp => ?_ | refine ⟨?_, trivial⟩ | intro _); conv => whnf))
  refine fin0 rfl (fun w' hm => ?_) (by first | exact .inr rfl | exact .inl rfl)
  exact ⟨_, .inr (.inl ⟨h0, rfl, _, _, rfl⟩), hm.sel (by (repeat constructor); first | done | fail)⟩
 ·conv => whnf
  (repeat ((first | refine stp (by (repeat constructor); first | done | fail) ?_ | refine stn (by (repeat constructor); first | done | fail) ?_ | refine sto (by (repeat constructor); first | done | fail) (by first | omega | (simp only; omega)) ?_ | refine .mk fun Ap capp => ?_ | refine ⟨?_, trivial⟩ | intro _); conv => whnf))
  refine br_d (fun h1 => ?_) (fun h1 => ?_)
  ·rw [if_pos h1]
   conv => whnf
   (repeat ((first | (refine ⟨say_enters, cl_mem (by (repeat constructor); first | done | fail) (fun w' hm' => say_any _ _ _ _ _ _ w' (by omega) hm'.part) ?_⟩; rintro e m' ⟨rfl, A', cap', rfl⟩) | refine ⟨itoa_enters, cl_same _ (fun w' hm' => itoa_any _ w' (hv w' hm'.fr)) ?_⟩ | refine stp (by (repeat constructor); first | done | fail) ?_ | refine stn (by (repeat constructor); first | done | fail) ?_ | refine sto (by (repeat constructor); first | done | fail) (by first | omega | (simp only; omega)) ?_ | refine .mk fun Ap capp => ?_ | refine ⟨?_, trivial⟩ | intro _); conv => whnf))
   refine fin0 rfl (fun w' hm => ?_) (by first | exact .inr rfl | exact .inl rfl)
   simp only [List.append_assoc, List.singleton_append] at hm
   exact ⟨_, .inr (.inr ⟨.inl h1, rfl, _, _, rfl⟩), hm.sel (by (repeat constructor); first | done | fail)⟩
  ·rw [if_neg h1]
   conv => whnf
   (repeat ((first | refine stp (by (repeat constructor); first | done | fail) ?_ | refine stn (by (repeat constructor); first | done | fail) ?_ | refine sto (by (repeat constructor); first | done | fail) (by first | omega | (simp only; omega)) ?_ | refine .mk fun Ap capp => ?_ | refine ⟨?_, trivial⟩ | intro _); conv => whnf))
   refine br_d (fun h2 => ?_) (fun h2 => ?_)
   ·conv => whnf
    (repeat ((first | (refine ⟨say_enters, cl_mem (by (repeat constructor); first | done | fail) (fun w' hm' => say_any _ _ _ _ _ _ w' (by omega) hm'.part) ?_⟩; rintro e m' ⟨rfl, A', cap', rfl⟩) | refine ⟨itoa_enters, cl_same _ (fun w' hm' => itoa_any _ w' (hv w' hm'.fr)) ?_⟩ | refine stp (by (repeat constructor); first | done | fail) ?_ | refine stn (by (repeat constructor); first | done | fail) ?_ | refine sto (by (repeat constructor); first | done | fail) (by first | omega | (simp only; omega)) ?_ | refine .mk fun Ap capp => ?_ | refine ⟨?_, trivial⟩ | intro _); conv => whnf))
    refine fin0 rfl (fun w' hm => ?_) (by first | exact .inr rfl | exact .inl rfl)
    simp only [List.append_assoc, List.singleton_append] at hm
    exact ⟨_, .inr (.inr ⟨.inr h2, rfl, _, _, rfl⟩), hm.sel (by (repeat constructor); first | done | fail)⟩
   ·conv => whnf
    (repeat ((first | refine stp (by (repeat constructor); first | done | fail) ?_ | refine stn (by (repeat constructor); first | done | fail) ?_ | refine sto (by (repeat constructor); first | done | fail) (by first | omega | (simp only; omega)) ?_ | refine .mk fun Ap capp => ?_ | refine ⟨?_, trivial⟩ | intro _); conv => whnf))
    exact fin_panic (fun w' hm => ⟨_, .inl ⟨by omega, rfl⟩, hm⟩)
end
end Go.Proofs.YtbfbjgakmnckbaaGreatDoor
namespace Go.Proofs.YtbfbjgakmnckbaaGreatDoor
open Go Go.RowKit Eng
attribute [local irreducible] Br Rn RnU Cl RdG CpG Ld Rd Lp Dr Oth Cut fin Fits Eng.Enters Md NA

theorem and15 : ∀ n : Fin 256, bits .and .u8 (n.val : Int) 15 = ((n.val % 16 : Nat) : Int) := by decide +kernel
theorem told_shr (n : Nat) : ((n : Int) / 2 ^ (4 : Int).toNat) = ((n / 16 : Nat) : Int) := rfl
set_option maxRecDepth 100000 in
theorem told_any (bs : List UInt8) (A : Option Addr) (c : Nat) (w : World) (h : BytsIn w A bs) (hl : bs.length ≤ 1073741824) :
  Calls Tryz.prog 193 #[.slice A bs.length c] w fun e w' => e = .returned (.string (Str (hexs bs))) ∧ Fr (fun _ => False) w w' := by
 refine enter (cx := CX 28 [] w) [(0, .slice A bs.length c)] tab_ok Tryz.func193 rfl rfl rfl rfl (MemOk.nil w _) ?_
 have h1 := fun m => BytsIn.byts (cx := CX 28 [] w) (m := m) h (fun _ h => h)
 clear h
 conv => whnf
 (repeat ((first | refine stp (by (repeat constructor); first | done | fail) ?_ | refine stn (by (repeat constructor); first | done | fail) ?_ | refine sto (by (repeat constructor); first | done | fail) (by first | omega | (simp only; omega)) ?_); conv => whnf))
 refine rn_make0 tab_ok rfl rfl rfl (by omega) (by show 1 * _ ≤ _; omega) (by omega) (fun b => ?_)
 conv => whnf
 (repeat ((first | refine stp (by (repeat constructor); first | done | fail) ?_ | refine stn (by (repeat constructor); first | done | fail) ?_ | refine sto (by (repeat constructor); first | done | fail) (by first | omega | (simp only; omega)) ?_); conv => whnf))
 refine lp tab_ok (γ := Nat × Option Addr × Nat) (fun g => g.1 ≤ bs.length) (fun g => [(12, .int .i64 g.1), (11, .int .i64 bs.length), (10, .slice A bs.length c), (3, .slice g.2.1 (2 * g.1) g.2.2)]) (fun g => [.row g.2.1 g.2.2 (2 * g.1) 5 1 ((numsOf (hexs (bs.take g.1))).map (.int .u8))]) (fun g => bs.length - g.1) (0, some ⟨b, 0, none⟩, _) (by simp) ⟨rfl, rfl, rfl, rfl, trivial⟩ (SubM.refl _ _) ?_
 rintro ⟨i, A', cap'⟩ hi
 simp only at hi
 change XC _ _ _ [(12, .int .i64 (i : Int)), (11, .int .i64 bs.length), (10, .slice A bs.length c), (3, .slice A' (2 * i) cap')] [.row A' cap' (2 * i) 5 1 ((numsOf (hexs (bs.take i))).map (.int .u8))]
 conv => whnf
 (repeat ((first | refine stp (by (repeat constructor); first | done | fail) ?_ | refine stn (by (repeat constructor); first | done | fail) ?_ | refine sto (by (repeat constructor); first | done | fail) (by first | omega | (simp only; omega)) ?_); conv => whnf))
 refine br_d (fun hlt => ?_) (fun hge => ?_)
 ·have hpl : Pl A := (h1 []).plain (by omega)
  conv => whnf
  refine ⟨⟨by omega, hlt, hpl⟩, ?_⟩
  conv => whnf
  refine rn_load ((h1 _).ld tab_ok rfl rfl (j := i) (by omega)) ?_
  conv => whnf
  have hb1 : 0 ≤ ((bs.getD i 0).toNat : Int) ∧ ((bs.getD i 0).toNat : Int) ≤ 255 := by have := (bs.getD i 0).toNat_lt; omega
  have ha : bits .and .u8 ((bs.getD i 0).toNat : Int) 15 = (((bs.getD i 0).toNat % 16 : Nat) : Int) := and15 ⟨(bs.getD i 0).toNat, (bs.getD i 0).toNat_lt⟩
  refine dr_any (γ := Option Addr × Nat) (Tr.hs [0, 1, 2, 3, 4, 5, 6] (Tr.sq [7, 8, 9] .done)) [] tab_ok mixed (by kernel_rfl) rfl (fun _ => True) (fun g => [(12, .int .i64 (i : Int)), (11, .int .i64 bs.length), (10, .slice A bs.length c), (3, .slice g.1 (2 * i + 2) g.2)]) (fun g => [.row g.1 g.2 (2 * i + 2) 5 1 ((numsOf (hexs (bs.take (i + 1)))).map (.int .u8))]) (SubM.sub (List.nil_sublist _)) ?_ ?_
  ·conv => whnf
   refine ⟨by show (0 : Int) ≤ 4 ∧ (4 : Int) ≤ 8; omega, ?_⟩
   conv => whnf
   refine ⟨by rw [told_shr]; show _ ∧ _ < (16 : Int); omega, ?_⟩
   conv => whnf
   refine ⟨by rw [ha]; show _ ∧ _ < (16 : Int); omega, ?_⟩
   conv => whnf
   (repeat ((first | refine stp (by (repeat constructor); first | done | fail) ?_ | refine stn (by (repeat constructor); first | done | fail) ?_ | refine sto (by (repeat constructor); first | done | fail) (by first | omega | (simp only; omega)) ?_ | refine .mk fun Ap capp => ?_ | refine ⟨?_, trivial⟩ | intro _); conv => whnf))
   refine ⟨(_, _), trivial, ⟨rfl, rfl, rfl, rfl, trivial⟩, ?_⟩
   refine SubM.row ?_ rfl (List.nil_sublist _)
   show _ ++ [Value.int .u8 (byteAt (Str sixteenL) (((bs.getD i 0).toNat : Int) / 2 ^ (4 : Int).toNat).toNat), Value.int .u8 (byteAt (Str sixteenL) (bits .and .u8 ((bs.getD i 0).toNat : Int) 15).toNat)] = _
   rw [ha, told_shr]
   exact hexs_row bs i (by omega)
  ·rintro ⟨A'', cap''⟩ _
   conv => whnf
   (repeat ((first | refine stp (by (repeat constructor); first | done | fail) ?_ | refine stn (by (repeat constructor); first | done | fail) ?_ | refine sto (by (repeat constructor); first | done | fail) (by first | omega | (simp only; omega)) ?_); conv => whnf))
   exact ⟨(i + 1, A'', cap''), by simp; omega, by simp; omega, ⟨rfl, rfl, rfl, rfl, trivial⟩, SubM.refl _ _⟩
 ·conv => whnf
  refine Rd.n (rd_rowStr (bs := hexs bs) (t := 5) tab_ok rfl rfl rfl rfl rfl rfl ?_ ?_) ?_
  ·have : bs.take i = bs := List.take_of_length_le (by omega)
   rw [this]; exact (by (repeat constructor); first | done | fail)
  ·rw [hexs_length]; omega
  ·conv => whnf
   refine fin1 rfl rfl (fun w' hm => ⟨rfl, hm.fr⟩)

theorem told_enters : Eng.Enters Tryz.prog 193 := enters_mk fun _ _ => by kernel_rfl
theorem hexs_nil {bs : List UInt8} : hexs bs = [] ↔ bs = [] := by
 constructor
 ·intro h
  have := hexs_length bs
  rw [h] at this
  exact List.eq_nil_of_length_eq_zero (by simp at this; omega)
 ·rintro rfl; rfl
section
variable (tB : Nat) (A : Option Addr) (cap n : Nat) (xs : List Value) (aB : Nat) (x : PAct) (bA pA : Option Addr) (bc pc : Nat) (w : World) (hn : n ≤ 1000000000) (hm : MemOk w (Foot (TM tB A cap n xs aB x bA pA bc pc)) (TM tB A cap n xs aB x bA pA bc pc) w)
include hn hm
set_option maxRecDepth 100000 in
theorem tdata_any (hb : Stb (TM tB A cap n xs aB x bA pA bc pc) w (fun w => BytsIn w bA x.bytes)) :
  Ctr Tryz.prog 185 [.pointer (some ⟨tB, 0, none⟩), .pointer (some ⟨aB, 6, none⟩)] (TM tB A cap n xs aB x bA pA bc pc) (fun e m' => (524288 < x.bytes.length ∧ e = .panicked (refusal 2)) ∨ (x.bytes.length ≤ 524288 ∧ e = .returned (.tuple #[]) ∧ ∃ A' cap', m' = TM tB A' cap' (n + 1) (xs ++ [.string (Str (hexF x.bytes))]) aB { x with bytes := [] } none pA 0 pc)) w := by
 refine enter (cx := CXS 23 [] w (Foot (TM tB A cap n xs aB x bA pA bc pc))) [(0, .pointer (some ⟨tB, 0, none⟩)), (1, .pointer (some ⟨aB, 6, none⟩))] tab_ok Tryz.func185 rfl rfl rfl rfl hm ?_
 conv => whnf
 (repeat ((first | refine stp (by (repeat constructor); first | done | fail) ?_ | refine stn (by (repeat constructor); first | done | fail) ?_ | refine sto (by (repeat constructor); first | done | fail) (by first | omega | (simp only; omega)) ?_ | refine .mk fun Ap capp => ?_ | refine ⟨?_, trivial⟩ | intro _); conv => whnf))
 refine br_d (fun h0 => ?_) (fun h0 => ?_)
 ·conv => whnf
  (repeat ((first | refine stp (by (repeat constructor); first | done | fail) ?_ | refine stn (by (repeat constructor); first | done | fail) ?_ | refine sto (by (repeat constructor); first | done | fail) (by first | omega | (simp only; omega)) ?_ | refine .mk fun Ap capp => ?_ | refine ⟨?_, trivial⟩ | intro _); conv => whnf))
  exact fin_panic (fun w' hm => ⟨_, .inl ⟨by omega, rfl⟩, hm⟩)
 ·conv => whnf
  (repeat ((first | refine ⟨told_enters, cl_same _ (fun w' hm' => told_any _ _ _ w' (hb w' hm'.fr) (by omega)) ?_⟩ | refine stp (by (repeat constructor); first | done | fail) ?_ | refine stn (by (repeat constructor); first | done | fail) ?_ | refine sto (by (repeat constructor); first | done | fail) (by first | omega | (simp only; omega)) ?_ | refine .mk fun Ap capp => ?_ | refine ⟨?_, trivial⟩ | intro _); conv => whnf))
  refine br_d (fun h1 => ?_) (fun h1 => ?_)
  ·have h2 : x.bytes = [] := hexs_nil.1 (Str.inj.1 h1)
   conv => whnf
   (repeat ((first | (refine ⟨say_enters, cl_mem (by (repeat constructor); first | done | fail) (fun w' hm' => say_any _ _ _ _ _ _ w' (by omega) hm'.part) ?_⟩; rintro e m' ⟨rfl, A', cap', rfl⟩) | refine stp (by (repeat constructor); first | done | fail) ?_ | refine stn (by (repeat constructor); first | done | fail) ?_ | refine sto (by (repeat constructor); first | done | fail) (by first | omega | (simp only; omega)) ?_ | refine .mk fun Ap capp => ?_ | refine ⟨?_, trivial⟩ | intro _); conv => whnf))
   refine fin0 rfl (fun w' hm => ?_) (by first | exact .inr rfl | exact .inl rfl)
   rw [hexF, if_pos h2]
   exact ⟨_, .inr ⟨by omega, rfl, _, _, rfl⟩, hm.sel (by (repeat constructor); first | done | fail)⟩
  ·have h2 : x.bytes ≠ [] := fun h => h1 (Str.inj.2 (hexs_nil.2 h))
   conv => whnf
   (repeat ((first | (refine ⟨say_enters, cl_mem (by (repeat constructor); first | done | fail) (fun w' hm' => say_any _ _ _ _ _ _ w' (by omega) hm'.part) ?_⟩; rintro e m' ⟨rfl, A', cap', rfl⟩) | refine stp (by (repeat constructor); first | done | fail) ?_ | refine stn (by (repeat constructor); first | done | fail) ?_ | refine sto (by (repeat constructor); first | done | fail) (by first | omega | (simp only; omega)) ?_ | refine .mk fun Ap capp => ?_ | refine ⟨?_, trivial⟩ | intro _); conv => whnf))
   refine fin0 rfl (fun w' hm => ?_) (by first | exact .inr rfl | exact .inl rfl)
   rw [hexF, if_neg h2]
   exact ⟨_, .inr ⟨by omega, rfl, _, _, rfl⟩, hm.sel (by (repeat constructor); first | done | fail)⟩

omit hn hm in
def itoas (l : List Int) : List Value := l.map fun p => .string (Str (Lib.itoa p))
set_option maxRecDepth 100000 in
theorem tpicks_any (hp : Stb (TM tB A cap n xs aB x bA pA bc pc) w (fun w => IntsIn .i64 w pA x.picks)) (hv : Stb (TM tB A cap n xs aB x bA pA bc pc) w (fun w => ∀ p ∈ x.picks, NumOk w p)) :
  Ctr Tryz.prog 190 [.pointer (some ⟨tB, 0, none⟩), .pointer (some ⟨aB, 12, none⟩)] (TM tB A cap n xs aB x bA pA bc pc) (fun e m' => (65536 < x.picks.length ∧ e = .panicked (refusal 2)) ∨ (x.picks.length ≤ 65536 ∧ e = .returned (.tuple #[]) ∧ ∃ A' cap', m' = TM tB A' cap' (n + x.picks.length) (xs ++ itoas x.picks) aB { x with picks := [] } bA none bc 0)) w := by
 refine enter (cx := CXS 28 [] w (Foot (TM tB A cap n xs aB x bA pA bc pc))) [(0, .pointer (some ⟨tB, 0, none⟩)), (1, .pointer (some ⟨aB, 12, none⟩))] tab_ok Tryz.func190 rfl rfl rfl rfl hm ?_
 conv => whnf
 (repeat ((first | refine stp (by (repeat constructor); first | done | fail) ?_ | refine stn (by (repeat constructor); first | done | fail) ?_ | refine sto (by (repeat constructor); first | done | fail) (by first | omega | (simp only; omega)) ?_ | refine .mk fun Ap capp => ?_ | refine ⟨?_, trivial⟩ | intro _); conv => whnf))
 refine br_d (fun h0 => ?_) (fun h0 => ?_)
 ·conv => whnf
  (repeat ((first | refine stp (by (repeat constructor); first | done | fail) ?_ | refine stn (by (repeat constructor); first | done | fail) ?_ | refine sto (by (repeat constructor); first | done | fail) (by first | omega | (simp only; omega)) ?_ | refine .mk fun Ap capp => ?_ | refine ⟨?_, trivial⟩ | intro _); conv => whnf))
  exact fin_panic (fun w' hm => ⟨_, .inl ⟨by omega, rfl⟩, hm⟩)
 ·conv => whnf
  (repeat ((first | refine stp (by (repeat constructor); first | done | fail) ?_ | refine stn (by (repeat constructor); first | done | fail) ?_ | refine sto (by (repeat constructor); first | done | fail) (by first | omega | (simp only; omega)) ?_ | refine .mk fun Ap capp => ?_ | refine ⟨?_, trivial⟩ | intro _); conv => whnf))
  have h3 := fun m => Stb.ints (cx := CXS 28 [] w (Foot (TM tB A cap n xs aB x bA pA bc pc))) (m := m) hp rfl
  refine lp tab_ok (γ := Nat × Option Addr × Nat) (fun g => g.1 ≤ x.picks.length) (fun g => [(17, .int .i64 g.1), (16, .int .i64 x.picks.length), (15, .slice pA x.picks.length pc), (0, .pointer (some ⟨tB, 0, none⟩)), (1, .pointer (some ⟨aB, 12, none⟩))]) (fun g => TM tB g.2.1 g.2.2 (n + g.1) (xs ++ itoas (x.picks.take g.1)) aB x bA pA bc pc) (fun g => x.picks.length - g.1) (0, A, cap) (by simp) ⟨rfl, rfl, rfl, rfl, rfl, trivial⟩ (by simp only [List.take_zero, itoas, List.map_nil, List.append_nil]; exact SubM.refl _ _) ?_
  rintro ⟨i, A', cap'⟩ hi
  simp only at hi
  change XC _ _ _ [(17, .int .i64 (i : Int)), (16, .int .i64 x.picks.length), (15, .slice pA x.picks.length pc), (0, .pointer (some ⟨tB, 0, none⟩)), (1, .pointer (some ⟨aB, 12, none⟩))] (TM tB A' cap' (n + i) (xs ++ itoas (x.picks.take i)) aB x bA pA bc pc)
  conv => whnf
  (repeat ((first | refine stp (by (repeat constructor); first | done | fail) ?_ | refine stn (by (repeat constructor); first | done | fail) ?_ | refine sto (by (repeat constructor); first | done | fail) (by first | omega | (simp only; omega)) ?_ | refine .mk fun Ap capp => ?_ | refine ⟨?_, trivial⟩ | intro _); conv => whnf))
  refine br_d (fun hlt => ?_) (fun hge => ?_)
  ·conv => whnf
   refine ⟨⟨by omega, hlt, (h3 []).plain (by omega)⟩, ?_⟩
   conv => whnf
   refine rn_load ((h3 _).ld tab_ok rfl rfl (j := i) (by omega)) ?_
   conv => whnf
   have hmem : x.picks.getD i 0 ∈ x.picks := by
    rw [List.getD, List.getElem?_eq_getElem (by omega)]
    exact List.getElem_mem _
   have hnext : xs ++ itoas (x.picks.take (i + 1)) = xs ++ itoas (x.picks.take i) ++ [.string (Str (Lib.itoa (x.picks.getD i 0)))] := by
    rw [List.take_add_one, List.getElem?_eq_getElem (by omega), itoas, List.map_append, List.append_assoc, List.getD, List.getElem?_eq_getElem (by omega)]
    rfl
   (repeat ((first | (refine ⟨say_enters, cl_mem (by (repeat constructor); first | done | fail) (fun w' hm' => say_any _ _ _ _ _ _ w' (by omega) hm'.part) ?_⟩; rintro e m' ⟨rfl, A', cap', rfl⟩) | refine ⟨itoa_enters, cl_same _ (fun w' hm' => itoa_any _ w' (hv w' hm'.fr _ hmem)) ?_⟩ | refine stp (by (repeat constructor); first | done | fail) ?_ | refine stn (by (repeat constructor); first | done | fail) ?_ | refine sto (by (repeat constructor); first | done | fail) (by first | omega | (simp only; omega)) ?_ | refine .mk fun Ap capp => ?_ | refine ⟨?_, trivial⟩ | intro _); conv => whnf))
   refine ⟨(i + 1, A', cap'), by simp; omega, by simp; omega, ⟨rfl, rfl, rfl, rfl, rfl, trivial⟩, ?_⟩
   simp only
   rw [hnext]
   exact SubM.sel (by (repeat constructor); first | done | fail)
  ·have hall : x.picks.take i = x.picks := List.take_of_length_le (by omega)
   have hi2 : i = x.picks.length := by omega
   rw [hall]
   conv => whnf
   (repeat ((first | refine stp (by (repeat constructor); first | done | fail) ?_ | refine stn (by (repeat constructor); first | done | fail) ?_ | refine sto (by (repeat constructor); first | done | fail) (by first | omega | (simp only; omega)) ?_ | refine .mk fun Ap capp => ?_ | refine ⟨?_, trivial⟩ | intro _); conv => whnf))
   refine fin0 rfl (fun w' hm => ?_) (by first | exact .inr rfl | exact .inl rfl)
   rw [← hi2]
   exact ⟨_, .inr ⟨by omega, rfl, _, _, rfl⟩, hm.sel (by (repeat constructor); first | done | fail)⟩
end
end Go.Proofs.YtbfbjgakmnckbaaGreatDoor
