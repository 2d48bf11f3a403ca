/- The types and functions of this program, and contracts of the library told for it. -/
import Derived.Shelf.Strings.Trim
import Derived.Shelf.Sort.Plain
import Derived.Shelf.Slices.CompactS
import Derived.Shelf.Slices.In.SortNone
import Derived.Test.YtbaekjnfijmakaaGreatDoorProg
import Derived.Test.YtbaekjnfijmakaaGreatDoorKc
set_option linter.unnecessarySimpa false
/-
  DERIVED: THE SHELF's CONTRACTS AT THIS DUMP, IN PLAIN WORDS (tools/lay-plain.mjs out of 'TryzShelf.lean', which tools/lay-shelf.mjs wrote): THE SAME DECLARATIONS UNDER THE SAME NAMES: 'import', 'namespace', 'open', 'def', 'theorem' AND NOTHING ELSE: no command of the shelf's: FOR A HAND-IN. Each laying: the table of numbers ('.._ren') and one theorem, a field a fact of the dump's own or the kernel's comparison; each contract: ONE APPLICATION.
-/
namespace Go.Proofs
open Go.Shelf
def Tryz.lays162_ren : Go.Shelf.Ren := ⟨fun | 162 => 144 | 232 => 178 | 227 => 179 | 234 => 180 | 236 => 181 | 228 => 199 | 271 => 200 | 151 => 201 | 120 => 209 | 197 => 210 | 152 => 211 | 260 => 213 | 137 => 214 | 119 => 215 | 224 => 216 | 225 => 217 | 217 => 218 | 266 => 219 | n => n, fun | 9 => 9 | 4 => 4 | 3 => 3 | 5 => 5 | 117 => 177 | 116 => 176 | 0 => 0 | 124 => 180 | 21 => 21 | 105 => 200 | 46 => 168 | 119 => 217 | 139 => 220 | 138 => 219 | n => n, fun | 3 => 0 | 4 => 1 | n => n⟩
theorem Tryz.lays162 : Go.Proofs.Lays.n162 Tryz.prog Tryz.lays162_ren := {
  mixed := by kernel_rfl
  f119 := Tryz.func215.trans (congrArg some (by kernel_rfl))
  f120 := Tryz.func209.trans (congrArg some (by kernel_rfl))
  f137 := Tryz.func214.trans (congrArg some (by kernel_rfl))
  f151 := Tryz.func201.trans (congrArg some (by kernel_rfl))
  f152 := Tryz.func211.trans (congrArg some (by kernel_rfl))
  f162 := Tryz.func144.trans (congrArg some (by kernel_rfl))
  f197 := Tryz.func210.trans (congrArg some (by kernel_rfl))
  f217 := Tryz.func218.trans (congrArg some (by kernel_rfl))
  f224 := Tryz.func216.trans (congrArg some (by kernel_rfl))
  f225 := Tryz.func217.trans (congrArg some (by kernel_rfl))
  f227 := Tryz.func179.trans (congrArg some (by kernel_rfl))
  f228 := Tryz.func199.trans (congrArg some (by kernel_rfl))
  f232 := Tryz.func178.trans (congrArg some (by kernel_rfl))
  f234 := Tryz.func180.trans (congrArg some (by kernel_rfl))
  f236 := Tryz.func181.trans (congrArg some (by kernel_rfl))
  f260 := Tryz.func213.trans (congrArg some (by kernel_rfl))
  f266 := Tryz.func219.trans (congrArg some (by kernel_rfl))
  f271 := Tryz.func200.trans (congrArg some (by kernel_rfl))
  t0 := Tryz.underlying0
  a0 := Tryz.isAgg0
  z0 := Tryz.sizeOf0
  v0 := Tryz.zeroValue0
  t3 := Tryz.underlying3
  a3 := Tryz.isAgg3
  z3 := Tryz.sizeOf3
  v3 := Tryz.zeroValue3
  t4 := Tryz.underlying4
  a4 := Tryz.isAgg4
  z4 := Tryz.sizeOf4
  v4 := Tryz.zeroValue4
  t5 := Tryz.underlying5
  a5 := Tryz.isAgg5
  z5 := Tryz.sizeOf5
  v5 := Tryz.zeroValue5
  t9 := Tryz.underlying9
  a9 := Tryz.isAgg9
  z9 := Tryz.sizeOf9
  v9 := Tryz.zeroValue9
  t21 := Tryz.underlying21
  a21 := Tryz.isAgg21
  z21 := Tryz.sizeOf21
  v21 := Tryz.zeroValue21
  t46 := Tryz.underlying168
  a46 := Tryz.isAgg168
  z46 := Tryz.sizeOf168
  v46 := Tryz.zeroValue168
  t105 := Tryz.underlying200
  a105 := Tryz.isAgg200
  z105 := Tryz.sizeOf200
  v105 := Tryz.zeroValue200
  t116 := Tryz.underlying176
  a116 := Tryz.isAgg176
  z116 := Tryz.sizeOf176
  t117 := Tryz.underlying177
  a117 := Tryz.isAgg177
  z117 := Tryz.sizeOf177
  v117 := Tryz.zeroValue177
  t119 := Tryz.underlying217
  a119 := Tryz.isAgg217
  z119 := Tryz.sizeOf217
  t124 := Tryz.underlying180
  a124 := Tryz.isAgg180
  z124 := Tryz.sizeOf180
  v124 := Tryz.zeroValue180
  t138 := Tryz.underlying219
  a138 := Tryz.isAgg219
  z138 := Tryz.sizeOf219
  v138 := Tryz.zeroValue219
  t139 := Tryz.underlying220
  a139 := Tryz.isAgg220
  z139 := Tryz.sizeOf220
  v139 := Tryz.zeroValue220
  g3 := by kernel_rfl
  g4 := by kernel_rfl }
open Go.RowKit in
/-- strings.TrimRight: "TrimRight returns a slice of the string s, with all trailing Unicode code points contained in cutset removed.": AT A cutset OF ONE ASCII BYTE. The world is as it was. (LAID: no walk: one application.) -/
theorem Tryz.strings_TrimRight_one (s : ByteArray) (c : UInt8) (hc : c.toNat < 128) (w : World) (hs : s.size ≤ 9223372036854775807) :
    Calls Tryz.prog 144 #[.string s, .string ⟨#[c]⟩] w fun e w' => e = .returned (.string ⟨(Lib.trimRightB s.data.toList c).toArray⟩) ∧ w' = w := Any.strings_TrimRight_one Tryz.lays162 s c hc w hs
def Tryz.lays190_ren : Go.Shelf.Ren := ⟨fun | 190 => 116 | 125 => 159 | 258 => 158 | 128 => 193 | 129 => 194 | 302 => 184 | 303 => 185 | 304 => 186 | 305 => 187 | 306 => 188 | 307 => 189 | 308 => 190 | 309 => 191 | 310 => 192 | 333 => 202 | 329 => 203 | 330 => 204 | 334 => 205 | 335 => 206 | 336 => 207 | 344 => 212 | n => n, fun | 31 => 46 | 9 => 9 | 3 => 3 | 46 => 168 | 0 => 0 | 51 => 193 | 53 => 195 | 4 => 4 | 183 => 185 | 182 => 184 | 131 => 190 | 5 => 5 | 218 => 203 | 222 => 207 | 228 => 211 | 229 => 212 | n => n, fun | n => n⟩
theorem Tryz.lays190 : Go.Proofs.Lays.n190 Tryz.prog Tryz.lays190_ren := {
  mixed := by kernel_rfl
  f125 := Tryz.func159.trans (congrArg some (by kernel_rfl))
  f128 := Tryz.func193.trans (congrArg some (by kernel_rfl))
  f129 := Tryz.func194.trans (congrArg some (by kernel_rfl))
  f190 := Tryz.func116.trans (congrArg some (by kernel_rfl))
  f258 := Tryz.func158.trans (congrArg some (by kernel_rfl))
  f302 := Tryz.func184.trans (congrArg some (by kernel_rfl))
  f303 := Tryz.func185.trans (congrArg some (by kernel_rfl))
  f304 := Tryz.func186.trans (congrArg some (by kernel_rfl))
  f305 := Tryz.func187.trans (congrArg some (by kernel_rfl))
  f306 := Tryz.func188.trans (congrArg some (by kernel_rfl))
  f307 := Tryz.func189.trans (congrArg some (by kernel_rfl))
  f308 := Tryz.func190.trans (congrArg some (by kernel_rfl))
  f309 := Tryz.func191.trans (congrArg some (by kernel_rfl))
  f310 := Tryz.func192.trans (congrArg some (by kernel_rfl))
  f329 := Tryz.func203.trans (congrArg some (by kernel_rfl))
  f330 := Tryz.func204.trans (congrArg some (by kernel_rfl))
  f333 := Tryz.func202.trans (congrArg some (by kernel_rfl))
  f334 := Tryz.func205.trans (congrArg some (by kernel_rfl))
  f335 := Tryz.func206.trans (congrArg some (by kernel_rfl))
  f336 := Tryz.func207.trans (congrArg some (by kernel_rfl))
  f344 := Tryz.func212.trans (congrArg some (by kernel_rfl))
  t0 := Tryz.underlying0
  a0 := Tryz.isAgg0
  z0 := Tryz.sizeOf0
  v0 := Tryz.zeroValue0
  t3 := Tryz.underlying3
  a3 := Tryz.isAgg3
  z3 := Tryz.sizeOf3
  v3 := Tryz.zeroValue3
  t4 := Tryz.underlying4
  a4 := Tryz.isAgg4
  z4 := Tryz.sizeOf4
  v4 := Tryz.zeroValue4
  t5 := Tryz.underlying5
  a5 := Tryz.isAgg5
  z5 := Tryz.sizeOf5
  v5 := Tryz.zeroValue5
  t9 := Tryz.underlying9
  a9 := Tryz.isAgg9
  z9 := Tryz.sizeOf9
  v9 := Tryz.zeroValue9
  t31 := Tryz.underlying46
  a31 := Tryz.isAgg46
  z31 := Tryz.sizeOf46
  v31 := Tryz.zeroValue46
  t46 := Tryz.underlying168
  a46 := Tryz.isAgg168
  z46 := Tryz.sizeOf168
  v46 := Tryz.zeroValue168
  t51 := Tryz.underlying193
  a51 := Tryz.isAgg193
  z51 := Tryz.sizeOf193
  v51 := Tryz.zeroValue193
  t53 := Tryz.underlying195
  a53 := Tryz.isAgg195
  z53 := Tryz.sizeOf195
  v53 := Tryz.zeroValue195
  t131 := Tryz.underlying190
  a131 := Tryz.isAgg190
  z131 := Tryz.sizeOf190
  v131 := Tryz.zeroValue190
  t182 := Tryz.underlying184
  a182 := Tryz.isAgg184
  z182 := Tryz.sizeOf184
  v182 := Tryz.zeroValue184
  t183 := Tryz.underlying185
  a183 := Tryz.isAgg185
  z183 := Tryz.sizeOf185
  v183 := Tryz.zeroValue185
  t218 := Tryz.underlying203
  a218 := Tryz.isAgg203
  z218 := Tryz.sizeOf203
  v218 := Tryz.zeroValue203
  t222 := Tryz.underlying207
  a222 := Tryz.isAgg207
  z222 := Tryz.sizeOf207
  v222 := Tryz.zeroValue207
  t228 := Tryz.underlying211
  a228 := Tryz.isAgg211
  z228 := Tryz.sizeOf211
  v228 := Tryz.zeroValue211
  t229 := Tryz.underlying212
  a229 := Tryz.isAgg212
  z229 := Tryz.sizeOf212
  v229 := Tryz.zeroValue212 }
open Go.Sort Go.RowKit in
theorem Tryz.slices_Sort_string (blk off cap : Nat) (ss : List (List UInt8)) (w : World) (hH : Holds encStr w blk off ss.toArray) (hblk : blk < w.heap.size) (hsz : ss.length < 4611686018427387904) :
    Calls Tryz.prog 116 #[.slice (some ⟨blk, off, none⟩) ss.length cap] w fun e w' =>
      e = .returned (.tuple #[]) ∧ ∃ n os, w' = grow (putRow encStr (Sort.ahead w n) blk off (ss.mergeSort fun x y => decide (x ≤ y)).toArray) os := Any.slices_Sort_string Tryz.lays190 blk off cap ss w hH hblk hsz
def Tryz.lays194_ren : Go.Shelf.Ren := ⟨fun | 194 => 146 | n => n, fun | 31 => 46 | 9 => 9 | 3 => 3 | 4 => 4 | 0 => 0 | n => n, fun | n => n⟩
theorem Tryz.lays194 : Go.Proofs.Lays.n194 Tryz.prog Tryz.lays194_ren := {
  mixed := by kernel_rfl
  f194 := Tryz.func146.trans (congrArg some (by kernel_rfl))
  t0 := Tryz.underlying0
  a0 := Tryz.isAgg0
  z0 := Tryz.sizeOf0
  v0 := Tryz.zeroValue0
  t3 := Tryz.underlying3
  a3 := Tryz.isAgg3
  z3 := Tryz.sizeOf3
  v3 := Tryz.zeroValue3
  t4 := Tryz.underlying4
  a4 := Tryz.isAgg4
  z4 := Tryz.sizeOf4
  v4 := Tryz.zeroValue4
  t9 := Tryz.underlying9
  a9 := Tryz.isAgg9
  z9 := Tryz.sizeOf9
  v9 := Tryz.zeroValue9
  t31 := Tryz.underlying46
  a31 := Tryz.isAgg46
  z31 := Tryz.sizeOf46
  v31 := Tryz.zeroValue46 }
open Go.RowKit Go.Lib Go.Sort in
/-- slices.Compact at []string: "Compact replaces consecutive runs of equal elements with a single copy. This is like the uniq command found on Unix. Compact modifies the contents of the slice s and returns the modified slice, which may have a smaller length. Compact zeroes the elements between the new length and the original length. The result preserves the nilness of s.": IT RETURNS THE SLICE CUT TO 'Lib.compact zs'; ITS CELLS HOLD 'Lib.compact zs', THEN ZERO VALUES up to the old length; all else is as it was, but for the count of draws. IN THE WORDS OF slices.Sort's CONTRACT ('Holds', 'putRow'): so the everyday 'slices.Sort(xs); xs = slices.Compact(xs)' goes from the one contract to the other. It asks 'zs.length ≤ cap' (every slice's: the reslicing 's[:k]' looks at it). Length 0, nil: '.._empty'. (LAID: no walk: one application.) -/
theorem Tryz.slices_Compact_string (blk off cap : Nat) (zs : List (List UInt8)) (w : World) (hH : Holds encStr w blk off zs.toArray) (hsz : zs.length ≤ 9223372036854775807) (hcap : zs.length ≤ cap) :
    Calls Tryz.prog 146 #[.slice (some ⟨blk, off, none⟩) zs.length cap] w fun e w' => e = .returned (.slice (some ⟨blk, off, none⟩) (Lib.compact zs).length cap) ∧ ∃ q, w' = putRow encStr (Sort.ahead w q) blk off (Lib.compact zs ++ List.replicate (zs.length - (Lib.compact zs).length) []).toArray := Any.slices_Compact_string Tryz.lays194 blk off cap zs w hH hsz hcap
open Go.RowKit Go.Lib Go.Sort in
/-- The same at a slice of length 0, a nil one too: it comes back as it is. (LAID: no walk: one application.) -/
theorem Tryz.slices_Compact_string_empty (a : Option Addr) (cap : Nat) (w : World) :
    Calls Tryz.prog 146 #[.slice a 0 cap] w fun e w' => e = .returned (.slice a 0 cap) ∧ w' = w := Any.slices_Compact_string_empty Tryz.lays194 a cap w
open Go.RowKit Go.Sort in
/-- .. and plain. (LAID: no walk: one application.) -/
theorem Tryz.slices_Sort_string_none (p : Option Addr) (cap : Nat) (w : World) :
    Calls Tryz.prog 116 #[.slice p 0 cap] w fun e w' => e = .returned (.tuple #[]) ∧ w' = w := Any.slices_Sort_string_none Tryz.lays190 p cap w
end Go.Proofs
/- What the types of this program are, and which code its functions have. -/
namespace Go.Proofs.K
open Go Go.Proofs
@[simp] theorem ti0 : ti Tryz.prog 0 = TI.mk true TK.other 1 0 [P1.top] := by kernel_rfl
@[simp] theorem ti1 : ti Tryz.prog 1 = TI.mk true TK.other 1 8 [P1.top] := by kernel_rfl
@[simp] theorem ti2 : ti Tryz.prog 2 = TI.mk true (TK.int IntKind.i64) 1 8 [P1.c (C.int IntKind.i64 0)] := by kernel_rfl
@[simp] theorem ti3 : ti Tryz.prog 3 = TI.mk true (TK.int IntKind.i64) 1 8 [P1.c (C.int IntKind.i64 0)] := by kernel_rfl
@[simp] theorem ti4 : ti Tryz.prog 4 = TI.mk true TK.bool 1 1 [P1.c (C.bool false)] := by kernel_rfl
@[simp] theorem ti5 : ti Tryz.prog 5 = TI.mk true (TK.int IntKind.u8) 1 1 [P1.c (C.int IntKind.u8 0)] := by kernel_rfl
@[simp] theorem ti6 : ti Tryz.prog 6 = TI.mk true (TK.int IntKind.u8) 1 1 [P1.c (C.int IntKind.u8 0)] := by kernel_rfl
@[simp] theorem ti7 : ti Tryz.prog 7 = TI.mk true (TK.struct [(0, 1), (1, 1), (2, 1), (3, 1)]) 4 24 [P1.c (C.int IntKind.i64 0), P1.c (C.int IntKind.i64 0), P1.c (C.bool false), P1.c (C.int IntKind.u8 0)] := by kernel_rfl
@[simp] theorem ti8 : ti Tryz.prog 8 = TI.mk true (TK.struct [(0, 1), (1, 1), (2, 1), (3, 1)]) 4 24 [P1.c (C.int IntKind.i64 0), P1.c (C.int IntKind.i64 0), P1.c (C.bool false), P1.c (C.int IntKind.u8 0)] := by kernel_rfl
@[simp] theorem ti9 : ti Tryz.prog 9 = TI.mk true TK.str 1 16 [P1.c (C.str (⟨#[]⟩))] := by kernel_rfl
@[simp] theorem ti10 : ti Tryz.prog 10 = TI.mk true TK.str 1 16 [P1.c (C.str (⟨#[]⟩))] := by kernel_rfl
@[simp] theorem ti11 : ti Tryz.prog 11 = TI.mk true TK.str 1 16 [P1.c (C.str (⟨#[]⟩))] := by kernel_rfl
@[simp] theorem ti12 : ti Tryz.prog 12 = TI.mk true (TK.int IntKind.u64) 1 8 [P1.c (C.int IntKind.u64 0)] := by kernel_rfl
@[simp] theorem ti13 : ti Tryz.prog 13 = TI.mk true (TK.struct [(0, 1), (1, 1)]) 2 24 [P1.c (C.str (⟨#[]⟩)), P1.c (C.int IntKind.u64 0)] := by kernel_rfl
@[simp] theorem ti14 : ti Tryz.prog 14 = TI.mk true (TK.struct [(0, 1), (1, 1)]) 2 24 [P1.c (C.str (⟨#[]⟩)), P1.c (C.int IntKind.u64 0)] := by kernel_rfl
@[simp] theorem ti15 : ti Tryz.prog 15 = TI.mk true TK.other 1 8 [P1.top] := by kernel_rfl
@[simp] theorem ti16 : ti Tryz.prog 16 = TI.mk true TK.other 1 8 [P1.top] := by kernel_rfl
@[simp] theorem ti17 : ti Tryz.prog 17 = TI.mk true TK.other 1 8 [P1.top] := by kernel_rfl
@[simp] theorem ti18 : ti Tryz.prog 18 = TI.mk true (TK.struct [(0, 1)]) 1 8 [P1.top] := by kernel_rfl
@[simp] theorem ti19 : ti Tryz.prog 19 = TI.mk true (TK.struct [(0, 1)]) 1 8 [P1.top] := by kernel_rfl
@[simp] theorem ti20 : ti Tryz.prog 20 = TI.mk true TK.other 1 16 [P1.top] := by kernel_rfl
@[simp] theorem ti21 : ti Tryz.prog 21 = TI.mk true (TK.int IntKind.i32) 1 4 [P1.c (C.int IntKind.i32 0)] := by kernel_rfl
@[simp] theorem ti22 : ti Tryz.prog 22 = TI.mk true (TK.slice 5) 1 24 [P1.nil] := by kernel_rfl
@[simp] theorem slt22 : slt Tryz.prog 22 = some (1, 1) := by kernel_rfl
@[simp] theorem ti23 : ti Tryz.prog 23 = TI.mk true (TK.slice 35) 1 24 [P1.nil] := by kernel_rfl
@[simp] theorem slt23 : slt Tryz.prog 23 = some (4, 40) := by kernel_rfl
@[simp] theorem ti24 : ti Tryz.prog 24 = TI.mk true (TK.struct [(0, 1)]) 1 24 [P1.nil] := by kernel_rfl
@[simp] theorem ti25 : ti Tryz.prog 25 = TI.mk true (TK.struct [(0, 1)]) 1 24 [P1.nil] := by kernel_rfl
@[simp] theorem ti26 : ti Tryz.prog 26 = TI.mk true (TK.slice 3) 1 24 [P1.nil] := by kernel_rfl
@[simp] theorem slt26 : slt Tryz.prog 26 = some (1, 8) := by kernel_rfl
@[simp] theorem ti27 : ti Tryz.prog 27 = TI.mk true (TK.slice 113) 1 24 [P1.nil] := by kernel_rfl
@[simp] theorem slt27 : slt Tryz.prog 27 = some (2, 24) := by kernel_rfl
@[simp] theorem ti28 : ti Tryz.prog 28 = TI.mk true (TK.struct [(0, 1), (1, 1)]) 2 48 [P1.nil, P1.nil] := by kernel_rfl
@[simp] theorem ti29 : ti Tryz.prog 29 = TI.mk true (TK.struct [(0, 1), (1, 1)]) 2 48 [P1.nil, P1.nil] := by kernel_rfl
@[simp] theorem ti30 : ti Tryz.prog 30 = TI.mk true TK.other 1 0 [P1.top] := by kernel_rfl
@[simp] theorem ti31 : ti Tryz.prog 31 = TI.mk true TK.other 1 8 [P1.top] := by kernel_rfl
@[simp] theorem ti32 : ti Tryz.prog 32 = TI.mk true TK.other 1 8 [P1.top] := by kernel_rfl
@[simp] theorem ti33 : ti Tryz.prog 33 = TI.mk true TK.other 1 8 [P1.top] := by kernel_rfl
@[simp] theorem ti34 : ti Tryz.prog 34 = TI.mk true (TK.struct [(0, 1), (1, 1), (2, 1), (3, 1)]) 4 40 [P1.c (C.str (⟨#[]⟩)), P1.c (C.int IntKind.i64 0), P1.c (C.bool false), P1.c (C.int IntKind.i64 0)] := by kernel_rfl
@[simp] theorem ti35 : ti Tryz.prog 35 = TI.mk true (TK.struct [(0, 1), (1, 1), (2, 1), (3, 1)]) 4 40 [P1.c (C.str (⟨#[]⟩)), P1.c (C.int IntKind.i64 0), P1.c (C.bool false), P1.c (C.int IntKind.i64 0)] := by kernel_rfl
@[simp] theorem ti36 : ti Tryz.prog 36 = TI.mk true TK.other 1 8 [P1.top] := by kernel_rfl
@[simp] theorem ti37 : ti Tryz.prog 37 = TI.mk true TK.other 1 8 [P1.top] := by kernel_rfl
@[simp] theorem ti38 : ti Tryz.prog 38 = TI.mk true (TK.slice 125) 1 24 [P1.nil] := by kernel_rfl
@[simp] theorem slt38 : slt Tryz.prog 38 = some (4, 40) := by kernel_rfl
@[simp] theorem ti39 : ti Tryz.prog 39 = TI.mk true (TK.struct [(0, 1)]) 1 24 [P1.nil] := by kernel_rfl
@[simp] theorem ti40 : ti Tryz.prog 40 = TI.mk true (TK.struct [(0, 1)]) 1 24 [P1.nil] := by kernel_rfl
@[simp] theorem ti41 : ti Tryz.prog 41 = TI.mk true TK.other 1 8 [P1.top] := by kernel_rfl
@[simp] theorem ti42 : ti Tryz.prog 42 = TI.mk true TK.other 1 8 [P1.top] := by kernel_rfl
@[simp] theorem ti43 : ti Tryz.prog 43 = TI.mk true TK.other 1 8 [P1.top] := by kernel_rfl
@[simp] theorem ti44 : ti Tryz.prog 44 = TI.mk true TK.other 1 0 [P1.top] := by kernel_rfl
@[simp] theorem ti45 : ti Tryz.prog 45 = TI.mk true TK.other 1 8 [P1.top] := by kernel_rfl
@[simp] theorem ti46 : ti Tryz.prog 46 = TI.mk true (TK.slice 9) 1 24 [P1.nil] := by kernel_rfl
@[simp] theorem slt46 : slt Tryz.prog 46 = some (1, 16) := by kernel_rfl
@[simp] theorem ti47 : ti Tryz.prog 47 = TI.mk true (TK.struct [(0, 1), (1, 1)]) 2 32 [P1.c (C.int IntKind.i64 0), P1.nil] := by kernel_rfl
@[simp] theorem ti48 : ti Tryz.prog 48 = TI.mk true (TK.struct [(0, 1), (1, 1)]) 2 32 [P1.c (C.int IntKind.i64 0), P1.nil] := by kernel_rfl
@[simp] theorem ti49 : ti Tryz.prog 49 = TI.mk true TK.other 1 0 [P1.top] := by kernel_rfl
@[simp] theorem ti50 : ti Tryz.prog 50 = TI.mk true TK.other 1 8 [P1.top] := by kernel_rfl
@[simp] theorem ti51 : ti Tryz.prog 51 = TI.mk true TK.other 1 8 [P1.top] := by kernel_rfl
@[simp] theorem ti52 : ti Tryz.prog 52 = TI.mk true TK.other 1 8 [P1.top] := by kernel_rfl
@[simp] theorem ti53 : ti Tryz.prog 53 = TI.mk true TK.other 1 8 [P1.top] := by kernel_rfl
@[simp] theorem ti54 : ti Tryz.prog 54 = TI.mk true TK.other 1 0 [P1.top] := by kernel_rfl
@[simp] theorem ti55 : ti Tryz.prog 55 = TI.mk true TK.other 1 8 [P1.top] := by kernel_rfl
@[simp] theorem ti56 : ti Tryz.prog 56 = TI.mk true TK.other 1 8 [P1.top] := by kernel_rfl
@[simp] theorem ti57 : ti Tryz.prog 57 = TI.mk true (TK.slice 40) 1 24 [P1.nil] := by kernel_rfl
@[simp] theorem slt57 : slt Tryz.prog 57 = some (1, 24) := by kernel_rfl
@[simp] theorem ti58 : ti Tryz.prog 58 = TI.mk true TK.other 1 8 [P1.top] := by kernel_rfl
@[simp] theorem ti59 : ti Tryz.prog 59 = TI.mk true TK.other 1 8 [P1.top] := by kernel_rfl
@[simp] theorem ti60 : ti Tryz.prog 60 = TI.mk true (TK.slice 25) 1 24 [P1.nil] := by kernel_rfl
@[simp] theorem slt60 : slt Tryz.prog 60 = some (1, 24) := by kernel_rfl
@[simp] theorem ti61 : ti Tryz.prog 61 = TI.mk true TK.other 1 8 [P1.top] := by kernel_rfl
@[simp] theorem ti62 : ti Tryz.prog 62 = TI.mk true TK.other 1 8 [P1.top] := by kernel_rfl
@[simp] theorem ti63 : ti Tryz.prog 63 = TI.mk true TK.other 1 8 [P1.top] := by kernel_rfl
@[simp] theorem ti64 : ti Tryz.prog 64 = TI.mk true (TK.struct [(0, 1), (1, 1)]) 2 32 [P1.c (C.str (⟨#[]⟩)), P1.c (C.str (⟨#[]⟩))] := by kernel_rfl
@[simp] theorem ti65 : ti Tryz.prog 65 = TI.mk true (TK.struct [(0, 1), (1, 1)]) 2 32 [P1.c (C.str (⟨#[]⟩)), P1.c (C.str (⟨#[]⟩))] := by kernel_rfl
@[simp] theorem ti66 : ti Tryz.prog 66 = TI.mk true (TK.slice 65) 1 24 [P1.nil] := by kernel_rfl
@[simp] theorem slt66 : slt Tryz.prog 66 = some (2, 32) := by kernel_rfl
@[simp] theorem ti67 : ti Tryz.prog 67 = TI.mk true TK.other 1 8 [P1.top] := by kernel_rfl
@[simp] theorem ti68 : ti Tryz.prog 68 = TI.mk true TK.other 1 8 [P1.top] := by kernel_rfl
@[simp] theorem ti69 : ti Tryz.prog 69 = TI.mk true TK.other 1 8 [P1.top] := by kernel_rfl
@[simp] theorem ti70 : ti Tryz.prog 70 = TI.mk true TK.other 1 8 [P1.top] := by kernel_rfl
@[simp] theorem ti71 : ti Tryz.prog 71 = TI.mk true TK.other 1 0 [P1.top] := by kernel_rfl
@[simp] theorem ti72 : ti Tryz.prog 72 = TI.mk true TK.other 1 8 [P1.top] := by kernel_rfl
@[simp] theorem ti73 : ti Tryz.prog 73 = TI.mk true TK.other 1 8 [P1.top] := by kernel_rfl
@[simp] theorem ti74 : ti Tryz.prog 74 = TI.mk true TK.other 1 8 [P1.top] := by kernel_rfl
@[simp] theorem ti75 : ti Tryz.prog 75 = TI.mk true TK.other 1 8 [P1.top] := by kernel_rfl
@[simp] theorem ti76 : ti Tryz.prog 76 = TI.mk true (TK.slice 147) 1 24 [P1.nil] := by kernel_rfl
@[simp] theorem slt76 : slt Tryz.prog 76 = some (3, 56) := by kernel_rfl
@[simp] theorem ti77 : ti Tryz.prog 77 = TI.mk true (TK.struct [(0, 1)]) 1 24 [P1.nil] := by kernel_rfl
@[simp] theorem ti78 : ti Tryz.prog 78 = TI.mk true (TK.struct [(0, 1)]) 1 24 [P1.nil] := by kernel_rfl
@[simp] theorem ti79 : ti Tryz.prog 79 = TI.mk true TK.other 1 0 [P1.top] := by kernel_rfl
@[simp] theorem ti80 : ti Tryz.prog 80 = TI.mk true TK.other 1 8 [P1.top] := by kernel_rfl
@[simp] theorem ti81 : ti Tryz.prog 81 = TI.mk true TK.other 1 8 [P1.top] := by kernel_rfl
@[simp] theorem ti82 : ti Tryz.prog 82 = TI.mk true TK.other 1 8 [P1.top] := by kernel_rfl
@[simp] theorem ti83 : ti Tryz.prog 83 = TI.mk true TK.other 1 8 [P1.top] := by kernel_rfl
@[simp] theorem ti84 : ti Tryz.prog 84 = TI.mk true TK.other 1 8 [P1.top] := by kernel_rfl
@[simp] theorem ti85 : ti Tryz.prog 85 = TI.mk true TK.other 1 8 [P1.top] := by kernel_rfl
@[simp] theorem ti86 : ti Tryz.prog 86 = TI.mk true TK.other 1 8 [P1.top] := by kernel_rfl
@[simp] theorem ti87 : ti Tryz.prog 87 = TI.mk true TK.other 1 8 [P1.top] := by kernel_rfl
@[simp] theorem ti88 : ti Tryz.prog 88 = TI.mk true TK.other 1 8 [P1.top] := by kernel_rfl
@[simp] theorem ti89 : ti Tryz.prog 89 = TI.mk true TK.other 1 8 [P1.top] := by kernel_rfl
@[simp] theorem ti90 : ti Tryz.prog 90 = TI.mk true TK.other 1 8 [P1.top] := by kernel_rfl
@[simp] theorem ti91 : ti Tryz.prog 91 = TI.mk true TK.other 1 8 [P1.top] := by kernel_rfl
@[simp] theorem ti92 : ti Tryz.prog 92 = TI.mk true TK.other 1 8 [P1.top] := by kernel_rfl
@[simp] theorem ti93 : ti Tryz.prog 93 = TI.mk true TK.other 1 8 [P1.top] := by kernel_rfl
@[simp] theorem ti94 : ti Tryz.prog 94 = TI.mk true TK.other 1 8 [P1.top] := by kernel_rfl
@[simp] theorem ti95 : ti Tryz.prog 95 = TI.mk true TK.other 1 8 [P1.top] := by kernel_rfl
@[simp] theorem ti96 : ti Tryz.prog 96 = TI.mk true TK.other 1 8 [P1.top] := by kernel_rfl
@[simp] theorem ti97 : ti Tryz.prog 97 = TI.mk true TK.other 1 8 [P1.top] := by kernel_rfl
@[simp] theorem ti98 : ti Tryz.prog 98 = TI.mk true TK.other 1 8 [P1.top] := by kernel_rfl
@[simp] theorem ti99 : ti Tryz.prog 99 = TI.mk true TK.other 1 8 [P1.top] := by kernel_rfl
@[simp] theorem ti100 : ti Tryz.prog 100 = TI.mk true TK.other 1 8 [P1.top] := by kernel_rfl
@[simp] theorem ti101 : ti Tryz.prog 101 = TI.mk true TK.other 1 8 [P1.top] := by kernel_rfl
@[simp] theorem ti102 : ti Tryz.prog 102 = TI.mk true TK.other 1 8 [P1.top] := by kernel_rfl
@[simp] theorem ti103 : ti Tryz.prog 103 = TI.mk true TK.other 1 8 [P1.top] := by kernel_rfl
@[simp] theorem ti104 : ti Tryz.prog 104 = TI.mk true TK.other 1 8 [P1.top] := by kernel_rfl
@[simp] theorem ti105 : ti Tryz.prog 105 = TI.mk true TK.other 1 8 [P1.top] := by kernel_rfl
@[simp] theorem ti106 : ti Tryz.prog 106 = TI.mk true TK.other 1 8 [P1.top] := by kernel_rfl
@[simp] theorem ti107 : ti Tryz.prog 107 = TI.mk true TK.other 1 8 [P1.top] := by kernel_rfl
@[simp] theorem ti108 : ti Tryz.prog 108 = TI.mk true TK.other 1 8 [P1.top] := by kernel_rfl
@[simp] theorem ti109 : ti Tryz.prog 109 = TI.mk true TK.other 1 8 [P1.top] := by kernel_rfl
@[simp] theorem ti110 : ti Tryz.prog 110 = TI.mk true TK.other 1 8 [P1.top] := by kernel_rfl
@[simp] theorem ti111 : ti Tryz.prog 111 = TI.mk true TK.other 1 8 [P1.top] := by kernel_rfl
@[simp] theorem ti112 : ti Tryz.prog 112 = TI.mk true (TK.struct [(0, 1), (1, 1)]) 2 24 [P1.c (C.str (⟨#[]⟩)), P1.c (C.int IntKind.i64 0)] := by kernel_rfl
@[simp] theorem ti113 : ti Tryz.prog 113 = TI.mk true (TK.struct [(0, 1), (1, 1)]) 2 24 [P1.c (C.str (⟨#[]⟩)), P1.c (C.int IntKind.i64 0)] := by kernel_rfl
@[simp] theorem ti114 : ti Tryz.prog 114 = TI.mk true (TK.struct [(0, 1), (1, 1)]) 2 32 [P1.nil, P1.c (C.int IntKind.i64 0)] := by kernel_rfl
@[simp] theorem ti115 : ti Tryz.prog 115 = TI.mk true (TK.struct [(0, 1), (1, 1)]) 2 32 [P1.nil, P1.c (C.int IntKind.i64 0)] := by kernel_rfl
@[simp] theorem ti116 : ti Tryz.prog 116 = TI.mk true (TK.slice 150) 1 24 [P1.nil] := by kernel_rfl
@[simp] theorem slt116 : slt Tryz.prog 116 = some (2, 24) := by kernel_rfl
@[simp] theorem ti117 : ti Tryz.prog 117 = TI.mk true TK.other 1 0 [P1.top] := by kernel_rfl
@[simp] theorem ti118 : ti Tryz.prog 118 = TI.mk true TK.other 1 8 [P1.top] := by kernel_rfl
@[simp] theorem ti119 : ti Tryz.prog 119 = TI.mk true TK.other 1 8 [P1.top] := by kernel_rfl
@[simp] theorem ti120 : ti Tryz.prog 120 = TI.mk true TK.other 1 8 [P1.top] := by kernel_rfl
@[simp] theorem ti121 : ti Tryz.prog 121 = TI.mk true TK.other 1 8 [P1.top] := by kernel_rfl
@[simp] theorem ti122 : ti Tryz.prog 122 = TI.mk true TK.other 1 8 [P1.top] := by kernel_rfl
@[simp] theorem ti123 : ti Tryz.prog 123 = TI.mk true TK.other 1 8 [P1.top] := by kernel_rfl
@[simp] theorem ti124 : ti Tryz.prog 124 = TI.mk true TK.other 1 8 [P1.top] := by kernel_rfl
@[simp] theorem ti125 : ti Tryz.prog 125 = TI.mk true (TK.struct [(0, 1), (1, 1), (2, 1), (3, 1)]) 4 40 [P1.c (C.str (⟨#[]⟩)), P1.c (C.int IntKind.i64 0), P1.c (C.bool false), P1.c (C.int IntKind.i64 0)] := by kernel_rfl
@[simp] theorem ti126 : ti Tryz.prog 126 = TI.mk true TK.other 1 8 [P1.top] := by kernel_rfl
@[simp] theorem ti127 : ti Tryz.prog 127 = TI.mk true TK.other 1 8 [P1.top] := by kernel_rfl
@[simp] theorem ti128 : ti Tryz.prog 128 = TI.mk true TK.other 1 8 [P1.top] := by kernel_rfl
@[simp] theorem ti129 : ti Tryz.prog 129 = TI.mk true TK.other 1 8 [P1.top] := by kernel_rfl
@[simp] theorem ti130 : ti Tryz.prog 130 = TI.mk true TK.other 1 8 [P1.top] := by kernel_rfl
@[simp] theorem ti131 : ti Tryz.prog 131 = TI.mk true TK.other 1 8 [P1.top] := by kernel_rfl
@[simp] theorem ti132 : ti Tryz.prog 132 = TI.mk true TK.other 1 8 [P1.top] := by kernel_rfl
@[simp] theorem ti133 : ti Tryz.prog 133 = TI.mk true TK.other 1 8 [P1.top] := by kernel_rfl
@[simp] theorem ti134 : ti Tryz.prog 134 = TI.mk true TK.other 1 8 [P1.top] := by kernel_rfl
@[simp] theorem ti135 : ti Tryz.prog 135 = TI.mk true TK.other 1 8 [P1.top] := by kernel_rfl
@[simp] theorem ti136 : ti Tryz.prog 136 = TI.mk true TK.other 1 8 [P1.top] := by kernel_rfl
@[simp] theorem ti137 : ti Tryz.prog 137 = TI.mk true TK.other 1 8 [P1.top] := by kernel_rfl
@[simp] theorem ti138 : ti Tryz.prog 138 = TI.mk true TK.other 1 8 [P1.top] := by kernel_rfl
@[simp] theorem ti139 : ti Tryz.prog 139 = TI.mk true TK.other 1 8 [P1.top] := by kernel_rfl
@[simp] theorem ti140 : ti Tryz.prog 140 = TI.mk true TK.other 1 8 [P1.top] := by kernel_rfl
@[simp] theorem ti141 : ti Tryz.prog 141 = TI.mk true TK.other 1 8 [P1.top] := by kernel_rfl
@[simp] theorem ti142 : ti Tryz.prog 142 = TI.mk true TK.other 1 8 [P1.top] := by kernel_rfl
@[simp] theorem ti143 : ti Tryz.prog 143 = TI.mk true TK.other 1 8 [P1.top] := by kernel_rfl
@[simp] theorem ti144 : ti Tryz.prog 144 = TI.mk true TK.other 1 8 [P1.top] := by kernel_rfl
@[simp] theorem ti145 : ti Tryz.prog 145 = TI.mk true TK.other 1 8 [P1.top] := by kernel_rfl
@[simp] theorem ti146 : ti Tryz.prog 146 = TI.mk true (TK.struct [(0, 1), (1, 1), (2, 1)]) 3 56 [P1.c (C.bool false), P1.nil, P1.nil] := by kernel_rfl
@[simp] theorem ti147 : ti Tryz.prog 147 = TI.mk true (TK.struct [(0, 1), (1, 1), (2, 1)]) 3 56 [P1.c (C.bool false), P1.nil, P1.nil] := by kernel_rfl
@[simp] theorem ti148 : ti Tryz.prog 148 = TI.mk true TK.other 1 8 [P1.top] := by kernel_rfl
@[simp] theorem ti149 : ti Tryz.prog 149 = TI.mk true (TK.struct [(0, 1), (1, 1)]) 2 24 [P1.c (C.int IntKind.i64 0), P1.c (C.str (⟨#[]⟩))] := by kernel_rfl
@[simp] theorem ti150 : ti Tryz.prog 150 = TI.mk true (TK.struct [(0, 1), (1, 1)]) 2 24 [P1.c (C.int IntKind.i64 0), P1.c (C.str (⟨#[]⟩))] := by kernel_rfl
@[simp] theorem ti151 : ti Tryz.prog 151 = TI.mk true TK.other 1 8 [P1.top] := by kernel_rfl
@[simp] theorem ti152 : ti Tryz.prog 152 = TI.mk true TK.other 1 8 [P1.top] := by kernel_rfl
@[simp] theorem ti153 : ti Tryz.prog 153 = TI.mk true TK.other 1 8 [P1.top] := by kernel_rfl
@[simp] theorem ti154 : ti Tryz.prog 154 = TI.mk true TK.other 1 8 [P1.top] := by kernel_rfl
@[simp] theorem ti155 : ti Tryz.prog 155 = TI.mk true TK.other 1 8 [P1.top] := by kernel_rfl
@[simp] theorem ti156 : ti Tryz.prog 156 = TI.mk true TK.other 1 8 [P1.top] := by kernel_rfl
@[simp] theorem ti157 : ti Tryz.prog 157 = TI.mk true TK.other 1 8 [P1.top] := by kernel_rfl
@[simp] theorem ti158 : ti Tryz.prog 158 = TI.mk true TK.other 1 8 [P1.top] := by kernel_rfl
@[simp] theorem ti159 : ti Tryz.prog 159 = TI.mk true TK.other 1 8 [P1.top] := by kernel_rfl
@[simp] theorem ti160 : ti Tryz.prog 160 = TI.mk true TK.other 1 8 [P1.top] := by kernel_rfl
@[simp] theorem ti161 : ti Tryz.prog 161 = TI.mk true TK.other 1 8 [P1.top] := by kernel_rfl
@[simp] theorem ti162 : ti Tryz.prog 162 = TI.mk true TK.other 1 8 [P1.top] := by kernel_rfl
@[simp] theorem ti163 : ti Tryz.prog 163 = TI.mk true TK.other 1 8 [P1.top] := by kernel_rfl
@[simp] theorem ti164 : ti Tryz.prog 164 = TI.mk true TK.other 1 8 [P1.top] := by kernel_rfl
@[simp] theorem ti165 : ti Tryz.prog 165 = TI.mk true TK.other 1 8 [P1.top] := by kernel_rfl
@[simp] theorem ti166 : ti Tryz.prog 166 = TI.mk true TK.other 1 8 [P1.top] := by kernel_rfl
@[simp] theorem ti167 : ti Tryz.prog 167 = TI.mk true TK.other 1 8 [P1.top] := by kernel_rfl
@[simp] theorem ti168 : ti Tryz.prog 168 = TI.mk true (TK.int IntKind.u64) 1 8 [P1.c (C.int IntKind.u64 0)] := by kernel_rfl
@[simp] theorem ti169 : ti Tryz.prog 169 = TI.mk true TK.other 1 8 [P1.top] := by kernel_rfl
@[simp] theorem ti170 : ti Tryz.prog 170 = TI.mk true TK.other 1 8 [P1.top] := by kernel_rfl
@[simp] theorem ti171 : ti Tryz.prog 171 = TI.mk true TK.other 1 8 [P1.top] := by kernel_rfl
@[simp] theorem ti172 : ti Tryz.prog 172 = TI.mk true (TK.slice 23) 1 24 [P1.nil] := by kernel_rfl
@[simp] theorem slt172 : slt Tryz.prog 172 = some (1, 24) := by kernel_rfl
@[simp] theorem ti173 : ti Tryz.prog 173 = TI.mk true TK.other 1 8 [P1.top] := by kernel_rfl
@[simp] theorem ti174 : ti Tryz.prog 174 = TI.mk true TK.other 1 8 [P1.top] := by kernel_rfl
@[simp] theorem ti175 : ti Tryz.prog 175 = TI.mk true TK.other 256 256 [P1.c (C.bool false), P1.c (C.bool false), P1.c (C.bool false), P1.c (C.bool false), P1.c (C.bool false), P1.c (C.bool false), P1.c (C.bool false), P1.c (C.bool false), P1.c (C.bool false), P1.c (C.bool false), P1.c (C.bool false), P1.c (C.bool false), P1.c (C.bool false), P1.c (C.bool false), P1.c (C.bool false), P1.c (C.bool false), P1.c (C.bool false), P1.c (C.bool false), P1.c (C.bool false), P1.c (C.bool false), P1.c (C.bool false), P1.c (C.bool false), P1.c (C.bool false), P1.c (C.bool false), P1.c (C.bool false), P1.c (C.bool false), P1.c (C.bool false), P1.c (C.bool false), P1.c (C.bool false), P1.c (C.bool false), P1.c (C.bool false), P1.c (C.bool false), P1.c (C.bool false), P1.c (C.bool false), P1.c (C.bool false), P1.c (C.bool false), P1.c (C.bool false), P1.c (C.bool false), P1.c (C.bool false), P1.c (C.bool false), P1.c (C.bool false), P1.c (C.bool false), P1.c (C.bool false), P1.c (C.bool false), P1.c (C.bool false), P1.c (C.bool false), P1.c (C.bool false), P1.c (C.bool false), P1.c (C.bool false), P1.c (C.bool false), P1.c (C.bool false), P1.c (C.bool false), P1.c (C.bool false), P1.c (C.bool false), P1.c (C.bool false), P1.c (C.bool false), P1.c (C.bool false), P1.c (C.bool false), P1.c (C.bool false), P1.c (C.bool false), P1.c (C.bool false), P1.c (C.bool false), P1.c (C.bool false), P1.c (C.bool false), P1.c (C.bool false), P1.c (C.bool false), P1.c (C.bool false), P1.c (C.bool false), P1.c (C.bool false), P1.c (C.bool false), P1.c (C.bool false), P1.c (C.bool false), P1.c (C.bool false), P1.c (C.bool false), P1.c (C.bool false), P1.c (C.bool false), P1.c (C.bool false), P1.c (C.bool false), P1.c (C.bool false), P1.c (C.bool false), P1.c (C.bool false), P1.c (C.bool false), P1.c (C.bool false), P1.c (C.bool false), P1.c (C.bool false), P1.c (C.bool false), P1.c (C.bool false), P1.c (C.bool false), P1.c (C.bool false), P1.c (C.bool false), P1.c (C.bool false), P1.c (C.bool false), P1.c (C.bool false), P1.c (C.bool false), P1.c (C.bool false), P1.c (C.bool false), P1.c (C.bool false), P1.c (C.bool false), P1.c (C.bool false), P1.c (C.bool false), P1.c (C.bool false), P1.c (C.bool false), P1.c (C.bool false), P1.c (C.bool false), P1.c (C.bool false), P1.c (C.bool false), P1.c (C.bool false), P1.c (C.bool false), P1.c (C.bool false), P1.c (C.bool false), P1.c (C.bool false), P1.c (C.bool false), P1.c (C.bool false), P1.c (C.bool false), P1.c (C.bool false), P1.c (C.bool false), P1.c (C.bool false), P1.c (C.bool false), P1.c (C.bool false), P1.c (C.bool false), P1.c (C.bool false), P1.c (C.bool false), P1.c (C.bool false), P1.c (C.bool false), P1.c (C.bool false), P1.c (C.bool false), P1.c (C.bool false), P1.c (C.bool false), P1.c (C.bool false), P1.c (C.bool false), P1.c (C.bool false), P1.c (C.bool false), P1.c (C.bool false), P1.c (C.bool false), P1.c (C.bool false), P1.c (C.bool false), P1.c (C.bool false), P1.c (C.bool false), P1.c (C.bool false), P1.c (C.bool false), P1.c (C.bool false), P1.c (C.bool false), P1.c (C.bool false), P1.c (C.bool false), P1.c (C.bool false), P1.c (C.bool false), P1.c (C.bool false), P1.c (C.bool false), P1.c (C.bool false), P1.c (C.bool false), P1.c (C.bool false), P1.c (C.bool false), P1.c (C.bool false), P1.c (C.bool false), P1.c (C.bool false), P1.c (C.bool false), P1.c (C.bool false), P1.c (C.bool false), P1.c (C.bool false), P1.c (C.bool false), P1.c (C.bool false), P1.c (C.bool false), P1.c (C.bool false), P1.c (C.bool false), P1.c (C.bool false), P1.c (C.bool false), P1.c (C.bool false), P1.c (C.bool false), P1.c (C.bool false), P1.c (C.bool false), P1.c (C.bool false), P1.c (C.bool false), P1.c (C.bool false), P1.c (C.bool false), P1.c (C.bool false), P1.c (C.bool false), P1.c (C.bool false), P1.c (C.bool false), P1.c (C.bool false), P1.c (C.bool false), P1.c (C.bool false), P1.c (C.bool false), P1.c (C.bool false), P1.c (C.bool false), P1.c (C.bool false), P1.c (C.bool false), P1.c (C.bool false), P1.c (C.bool false), P1.c (C.bool false), P1.c (C.bool false), P1.c (C.bool false), P1.c (C.bool false), P1.c (C.bool false), P1.c (C.bool false), P1.c (C.bool false), P1.c (C.bool false), P1.c (C.bool false), P1.c (C.bool false), P1.c (C.bool false), P1.c (C.bool false), P1.c (C.bool false), P1.c (C.bool false), P1.c (C.bool false), P1.c (C.bool false), P1.c (C.bool false), P1.c (C.bool false), P1.c (C.bool false), P1.c (C.bool false), P1.c (C.bool false), P1.c (C.bool false), P1.c (C.bool false), P1.c (C.bool false), P1.c (C.bool false), P1.c (C.bool false), P1.c (C.bool false), P1.c (C.bool false), P1.c (C.bool false), P1.c (C.bool false), P1.c (C.bool false), P1.c (C.bool false), P1.c (C.bool false), P1.c (C.bool false), P1.c (C.bool false), P1.c (C.bool false), P1.c (C.bool false), P1.c (C.bool false), P1.c (C.bool false), P1.c (C.bool false), P1.c (C.bool false), P1.c (C.bool false), P1.c (C.bool false), P1.c (C.bool false), P1.c (C.bool false), P1.c (C.bool false), P1.c (C.bool false), P1.c (C.bool false), P1.c (C.bool false), P1.c (C.bool false), P1.c (C.bool false), P1.c (C.bool false), P1.c (C.bool false), P1.c (C.bool false), P1.c (C.bool false), P1.c (C.bool false), P1.c (C.bool false), P1.c (C.bool false), P1.c (C.bool false), P1.c (C.bool false), P1.c (C.bool false), P1.c (C.bool false), P1.c (C.bool false), P1.c (C.bool false), P1.c (C.bool false), P1.c (C.bool false), P1.c (C.bool false), P1.c (C.bool false)] := by kernel_rfl
@[simp] theorem ti176 : ti Tryz.prog 176 = TI.mk true TK.other 256 256 [P1.c (C.bool false), P1.c (C.bool false), P1.c (C.bool false), P1.c (C.bool false), P1.c (C.bool false), P1.c (C.bool false), P1.c (C.bool false), P1.c (C.bool false), P1.c (C.bool false), P1.c (C.bool false), P1.c (C.bool false), P1.c (C.bool false), P1.c (C.bool false), P1.c (C.bool false), P1.c (C.bool false), P1.c (C.bool false), P1.c (C.bool false), P1.c (C.bool false), P1.c (C.bool false), P1.c (C.bool false), P1.c (C.bool false), P1.c (C.bool false), P1.c (C.bool false), P1.c (C.bool false), P1.c (C.bool false), P1.c (C.bool false), P1.c (C.bool false), P1.c (C.bool false), P1.c (C.bool false), P1.c (C.bool false), P1.c (C.bool false), P1.c (C.bool false), P1.c (C.bool false), P1.c (C.bool false), P1.c (C.bool false), P1.c (C.bool false), P1.c (C.bool false), P1.c (C.bool false), P1.c (C.bool false), P1.c (C.bool false), P1.c (C.bool false), P1.c (C.bool false), P1.c (C.bool false), P1.c (C.bool false), P1.c (C.bool false), P1.c (C.bool false), P1.c (C.bool false), P1.c (C.bool false), P1.c (C.bool false), P1.c (C.bool false), P1.c (C.bool false), P1.c (C.bool false), P1.c (C.bool false), P1.c (C.bool false), P1.c (C.bool false), P1.c (C.bool false), P1.c (C.bool false), P1.c (C.bool false), P1.c (C.bool false), P1.c (C.bool false), P1.c (C.bool false), P1.c (C.bool false), P1.c (C.bool false), P1.c (C.bool false), P1.c (C.bool false), P1.c (C.bool false), P1.c (C.bool false), P1.c (C.bool false), P1.c (C.bool false), P1.c (C.bool false), P1.c (C.bool false), P1.c (C.bool false), P1.c (C.bool false), P1.c (C.bool false), P1.c (C.bool false), P1.c (C.bool false), P1.c (C.bool false), P1.c (C.bool false), P1.c (C.bool false), P1.c (C.bool false), P1.c (C.bool false), P1.c (C.bool false), P1.c (C.bool false), P1.c (C.bool false), P1.c (C.bool false), P1.c (C.bool false), P1.c (C.bool false), P1.c (C.bool false), P1.c (C.bool false), P1.c (C.bool false), P1.c (C.bool false), P1.c (C.bool false), P1.c (C.bool false), P1.c (C.bool false), P1.c (C.bool false), P1.c (C.bool false), P1.c (C.bool false), P1.c (C.bool false), P1.c (C.bool false), P1.c (C.bool false), P1.c (C.bool false), P1.c (C.bool false), P1.c (C.bool false), P1.c (C.bool false), P1.c (C.bool false), P1.c (C.bool false), P1.c (C.bool false), P1.c (C.bool false), P1.c (C.bool false), P1.c (C.bool false), P1.c (C.bool false), P1.c (C.bool false), P1.c (C.bool false), P1.c (C.bool false), P1.c (C.bool false), P1.c (C.bool false), P1.c (C.bool false), P1.c (C.bool false), P1.c (C.bool false), P1.c (C.bool false), P1.c (C.bool false), P1.c (C.bool false), P1.c (C.bool false), P1.c (C.bool false), P1.c (C.bool false), P1.c (C.bool false), P1.c (C.bool false), P1.c (C.bool false), P1.c (C.bool false), P1.c (C.bool false), P1.c (C.bool false), P1.c (C.bool false), P1.c (C.bool false), P1.c (C.bool false), P1.c (C.bool false), P1.c (C.bool false), P1.c (C.bool false), P1.c (C.bool false), P1.c (C.bool false), P1.c (C.bool false), P1.c (C.bool false), P1.c (C.bool false), P1.c (C.bool false), P1.c (C.bool false), P1.c (C.bool false), P1.c (C.bool false), P1.c (C.bool false), P1.c (C.bool false), P1.c (C.bool false), P1.c (C.bool false), P1.c (C.bool false), P1.c (C.bool false), P1.c (C.bool false), P1.c (C.bool false), P1.c (C.bool false), P1.c (C.bool false), P1.c (C.bool false), P1.c (C.bool false), P1.c (C.bool false), P1.c (C.bool false), P1.c (C.bool false), P1.c (C.bool false), P1.c (C.bool false), P1.c (C.bool false), P1.c (C.bool false), P1.c (C.bool false), P1.c (C.bool false), P1.c (C.bool false), P1.c (C.bool false), P1.c (C.bool false), P1.c (C.bool false), P1.c (C.bool false), P1.c (C.bool false), P1.c (C.bool false), P1.c (C.bool false), P1.c (C.bool false), P1.c (C.bool false), P1.c (C.bool false), P1.c (C.bool false), P1.c (C.bool false), P1.c (C.bool false), P1.c (C.bool false), P1.c (C.bool false), P1.c (C.bool false), P1.c (C.bool false), P1.c (C.bool false), P1.c (C.bool false), P1.c (C.bool false), P1.c (C.bool false), P1.c (C.bool false), P1.c (C.bool false), P1.c (C.bool false), P1.c (C.bool false), P1.c (C.bool false), P1.c (C.bool false), P1.c (C.bool false), P1.c (C.bool false), P1.c (C.bool false), P1.c (C.bool false), P1.c (C.bool false), P1.c (C.bool false), P1.c (C.bool false), P1.c (C.bool false), P1.c (C.bool false), P1.c (C.bool false), P1.c (C.bool false), P1.c (C.bool false), P1.c (C.bool false), P1.c (C.bool false), P1.c (C.bool false), P1.c (C.bool false), P1.c (C.bool false), P1.c (C.bool false), P1.c (C.bool false), P1.c (C.bool false), P1.c (C.bool false), P1.c (C.bool false), P1.c (C.bool false), P1.c (C.bool false), P1.c (C.bool false), P1.c (C.bool false), P1.c (C.bool false), P1.c (C.bool false), P1.c (C.bool false), P1.c (C.bool false), P1.c (C.bool false), P1.c (C.bool false), P1.c (C.bool false), P1.c (C.bool false), P1.c (C.bool false), P1.c (C.bool false), P1.c (C.bool false), P1.c (C.bool false), P1.c (C.bool false), P1.c (C.bool false), P1.c (C.bool false), P1.c (C.bool false), P1.c (C.bool false), P1.c (C.bool false), P1.c (C.bool false), P1.c (C.bool false), P1.c (C.bool false), P1.c (C.bool false), P1.c (C.bool false), P1.c (C.bool false), P1.c (C.bool false), P1.c (C.bool false), P1.c (C.bool false), P1.c (C.bool false), P1.c (C.bool false), P1.c (C.bool false), P1.c (C.bool false), P1.c (C.bool false), P1.c (C.bool false), P1.c (C.bool false), P1.c (C.bool false)] := by kernel_rfl
@[simp] theorem ti177 : ti Tryz.prog 177 = TI.mk true TK.other 1 0 [P1.top] := by kernel_rfl
@[simp] theorem ti178 : ti Tryz.prog 178 = TI.mk true TK.other 1 8 [P1.top] := by kernel_rfl
@[simp] theorem ti179 : ti Tryz.prog 179 = TI.mk true TK.other 1 8 [P1.top] := by kernel_rfl
@[simp] theorem ti180 : ti Tryz.prog 180 = TI.mk true TK.other 1 8 [P1.top] := by kernel_rfl
@[simp] theorem ti181 : ti Tryz.prog 181 = TI.mk true (TK.slice 46) 1 24 [P1.nil] := by kernel_rfl
@[simp] theorem slt181 : slt Tryz.prog 181 = some (1, 24) := by kernel_rfl
@[simp] theorem ti182 : ti Tryz.prog 182 = TI.mk true TK.other 1 8 [P1.top] := by kernel_rfl
@[simp] theorem ti183 : ti Tryz.prog 183 = TI.mk true TK.other 1 8 [P1.top] := by kernel_rfl
@[simp] theorem ti184 : ti Tryz.prog 184 = TI.mk true (TK.int IntKind.i64) 1 8 [P1.c (C.int IntKind.i64 0)] := by kernel_rfl
@[simp] theorem ti185 : ti Tryz.prog 185 = TI.mk true TK.other 1 0 [P1.top] := by kernel_rfl
@[simp] theorem ti186 : ti Tryz.prog 186 = TI.mk true TK.other 1 8 [P1.top] := by kernel_rfl
@[simp] theorem ti187 : ti Tryz.prog 187 = TI.mk true TK.other 1 8 [P1.top] := by kernel_rfl
@[simp] theorem ti188 : ti Tryz.prog 188 = TI.mk true TK.other 1 8 [P1.top] := by kernel_rfl
@[simp] theorem ti189 : ti Tryz.prog 189 = TI.mk true TK.other 1 8 [P1.top] := by kernel_rfl
@[simp] theorem ti190 : ti Tryz.prog 190 = TI.mk true TK.other 1 0 [P1.top] := by kernel_rfl
@[simp] theorem ti191 : ti Tryz.prog 191 = TI.mk true TK.other 1 8 [P1.top] := by kernel_rfl
@[simp] theorem ti192 : ti Tryz.prog 192 = TI.mk true TK.other 1 8 [P1.top] := by kernel_rfl
@[simp] theorem ti193 : ti Tryz.prog 193 = TI.mk true (TK.int IntKind.u32) 1 4 [P1.c (C.int IntKind.u32 0)] := by kernel_rfl
@[simp] theorem ti194 : ti Tryz.prog 194 = TI.mk true TK.other 1 8 [P1.top] := by kernel_rfl
@[simp] theorem ti195 : ti Tryz.prog 195 = TI.mk true (TK.int IntKind.u64) 1 8 [P1.c (C.int IntKind.u64 0)] := by kernel_rfl
@[simp] theorem ti196 : ti Tryz.prog 196 = TI.mk true TK.other 1 8 [P1.top] := by kernel_rfl
@[simp] theorem ti197 : ti Tryz.prog 197 = TI.mk true TK.other 1 8 [P1.top] := by kernel_rfl
@[simp] theorem ti198 : ti Tryz.prog 198 = TI.mk true TK.other 1 8 [P1.top] := by kernel_rfl
@[simp] theorem ti199 : ti Tryz.prog 199 = TI.mk true TK.other 1 8 [P1.top] := by kernel_rfl
@[simp] theorem ti200 : ti Tryz.prog 200 = TI.mk true TK.other 1 0 [P1.top] := by kernel_rfl
@[simp] theorem ti201 : ti Tryz.prog 201 = TI.mk true TK.other 1 8 [P1.top] := by kernel_rfl
@[simp] theorem ti202 : ti Tryz.prog 202 = TI.mk true TK.other 1 8 [P1.top] := by kernel_rfl
@[simp] theorem ti203 : ti Tryz.prog 203 = TI.mk true (TK.int IntKind.u64) 1 8 [P1.c (C.int IntKind.u64 0)] := by kernel_rfl
@[simp] theorem ti204 : ti Tryz.prog 204 = TI.mk true TK.other 1 8 [P1.top] := by kernel_rfl
@[simp] theorem ti205 : ti Tryz.prog 205 = TI.mk true TK.other 1 8 [P1.top] := by kernel_rfl
@[simp] theorem ti206 : ti Tryz.prog 206 = TI.mk true TK.other 1 8 [P1.top] := by kernel_rfl
@[simp] theorem ti207 : ti Tryz.prog 207 = TI.mk true TK.other 1 8 [P1.top] := by kernel_rfl
@[simp] theorem ti208 : ti Tryz.prog 208 = TI.mk true TK.other 1 8 [P1.top] := by kernel_rfl
@[simp] theorem ti209 : ti Tryz.prog 209 = TI.mk true TK.other 1 8 [P1.top] := by kernel_rfl
@[simp] theorem ti210 : ti Tryz.prog 210 = TI.mk true TK.other 1 8 [P1.top] := by kernel_rfl
@[simp] theorem ti211 : ti Tryz.prog 211 = TI.mk true TK.other 1 8 [P1.top] := by kernel_rfl
@[simp] theorem ti212 : ti Tryz.prog 212 = TI.mk true TK.other 1 0 [P1.top] := by kernel_rfl
@[simp] theorem ti213 : ti Tryz.prog 213 = TI.mk true TK.other 1 8 [P1.top] := by kernel_rfl
@[simp] theorem ti214 : ti Tryz.prog 214 = TI.mk true TK.other 1 8 [P1.top] := by kernel_rfl
@[simp] theorem ti215 : ti Tryz.prog 215 = TI.mk true TK.other 1 8 [P1.top] := by kernel_rfl
@[simp] theorem ti216 : ti Tryz.prog 216 = TI.mk true TK.other 1 8 [P1.top] := by kernel_rfl
@[simp] theorem ti217 : ti Tryz.prog 217 = TI.mk true TK.other 256 256 [P1.c (C.int IntKind.u8 0), P1.c (C.int IntKind.u8 0), P1.c (C.int IntKind.u8 0), P1.c (C.int IntKind.u8 0), P1.c (C.int IntKind.u8 0), P1.c (C.int IntKind.u8 0), P1.c (C.int IntKind.u8 0), P1.c (C.int IntKind.u8 0), P1.c (C.int IntKind.u8 0), P1.c (C.int IntKind.u8 0), P1.c (C.int IntKind.u8 0), P1.c (C.int IntKind.u8 0), P1.c (C.int IntKind.u8 0), P1.c (C.int IntKind.u8 0), P1.c (C.int IntKind.u8 0), P1.c (C.int IntKind.u8 0), P1.c (C.int IntKind.u8 0), P1.c (C.int IntKind.u8 0), P1.c (C.int IntKind.u8 0), P1.c (C.int IntKind.u8 0), P1.c (C.int IntKind.u8 0), P1.c (C.int IntKind.u8 0), P1.c (C.int IntKind.u8 0), P1.c (C.int IntKind.u8 0), P1.c (C.int IntKind.u8 0), P1.c (C.int IntKind.u8 0), P1.c (C.int IntKind.u8 0), P1.c (C.int IntKind.u8 0), P1.c (C.int IntKind.u8 0), P1.c (C.int IntKind.u8 0), P1.c (C.int IntKind.u8 0), P1.c (C.int IntKind.u8 0), P1.c (C.int IntKind.u8 0), P1.c (C.int IntKind.u8 0), P1.c (C.int IntKind.u8 0), P1.c (C.int IntKind.u8 0), P1.c (C.int IntKind.u8 0), P1.c (C.int IntKind.u8 0), P1.c (C.int IntKind.u8 0), P1.c (C.int IntKind.u8 0), P1.c (C.int IntKind.u8 0), P1.c (C.int IntKind.u8 0), P1.c (C.int IntKind.u8 0), P1.c (C.int IntKind.u8 0), P1.c (C.int IntKind.u8 0), P1.c (C.int IntKind.u8 0), P1.c (C.int IntKind.u8 0), P1.c (C.int IntKind.u8 0), P1.c (C.int IntKind.u8 0), P1.c (C.int IntKind.u8 0), P1.c (C.int IntKind.u8 0), P1.c (C.int IntKind.u8 0), P1.c (C.int IntKind.u8 0), P1.c (C.int IntKind.u8 0), P1.c (C.int IntKind.u8 0), P1.c (C.int IntKind.u8 0), P1.c (C.int IntKind.u8 0), P1.c (C.int IntKind.u8 0), P1.c (C.int IntKind.u8 0), P1.c (C.int IntKind.u8 0), P1.c (C.int IntKind.u8 0), P1.c (C.int IntKind.u8 0), P1.c (C.int IntKind.u8 0), P1.c (C.int IntKind.u8 0), P1.c (C.int IntKind.u8 0), P1.c (C.int IntKind.u8 0), P1.c (C.int IntKind.u8 0), P1.c (C.int IntKind.u8 0), P1.c (C.int IntKind.u8 0), P1.c (C.int IntKind.u8 0), P1.c (C.int IntKind.u8 0), P1.c (C.int IntKind.u8 0), P1.c (C.int IntKind.u8 0), P1.c (C.int IntKind.u8 0), P1.c (C.int IntKind.u8 0), P1.c (C.int IntKind.u8 0), P1.c (C.int IntKind.u8 0), P1.c (C.int IntKind.u8 0), P1.c (C.int IntKind.u8 0), P1.c (C.int IntKind.u8 0), P1.c (C.int IntKind.u8 0), P1.c (C.int IntKind.u8 0), P1.c (C.int IntKind.u8 0), P1.c (C.int IntKind.u8 0), P1.c (C.int IntKind.u8 0), P1.c (C.int IntKind.u8 0), P1.c (C.int IntKind.u8 0), P1.c (C.int IntKind.u8 0), P1.c (C.int IntKind.u8 0), P1.c (C.int IntKind.u8 0), P1.c (C.int IntKind.u8 0), P1.c (C.int IntKind.u8 0), P1.c (C.int IntKind.u8 0), P1.c (C.int IntKind.u8 0), P1.c (C.int IntKind.u8 0), P1.c (C.int IntKind.u8 0), P1.c (C.int IntKind.u8 0), P1.c (C.int IntKind.u8 0), P1.c (C.int IntKind.u8 0), P1.c (C.int IntKind.u8 0), P1.c (C.int IntKind.u8 0), P1.c (C.int IntKind.u8 0), P1.c (C.int IntKind.u8 0), P1.c (C.int IntKind.u8 0), P1.c (C.int IntKind.u8 0), P1.c (C.int IntKind.u8 0), P1.c (C.int IntKind.u8 0), P1.c (C.int IntKind.u8 0), P1.c (C.int IntKind.u8 0), P1.c (C.int IntKind.u8 0), P1.c (C.int IntKind.u8 0), P1.c (C.int IntKind.u8 0), P1.c (C.int IntKind.u8 0), P1.c (C.int IntKind.u8 0), P1.c (C.int IntKind.u8 0), P1.c (C.int IntKind.u8 0), P1.c (C.int IntKind.u8 0), P1.c (C.int IntKind.u8 0), P1.c (C.int IntKind.u8 0), P1.c (C.int IntKind.u8 0), P1.c (C.int IntKind.u8 0), P1.c (C.int IntKind.u8 0), P1.c (C.int IntKind.u8 0), P1.c (C.int IntKind.u8 0), P1.c (C.int IntKind.u8 0), P1.c (C.int IntKind.u8 0), P1.c (C.int IntKind.u8 0), P1.c (C.int IntKind.u8 0), P1.c (C.int IntKind.u8 0), P1.c (C.int IntKind.u8 0), P1.c (C.int IntKind.u8 0), P1.c (C.int IntKind.u8 0), P1.c (C.int IntKind.u8 0), P1.c (C.int IntKind.u8 0), P1.c (C.int IntKind.u8 0), P1.c (C.int IntKind.u8 0), P1.c (C.int IntKind.u8 0), P1.c (C.int IntKind.u8 0), P1.c (C.int IntKind.u8 0), P1.c (C.int IntKind.u8 0), P1.c (C.int IntKind.u8 0), P1.c (C.int IntKind.u8 0), P1.c (C.int IntKind.u8 0), P1.c (C.int IntKind.u8 0), P1.c (C.int IntKind.u8 0), P1.c (C.int IntKind.u8 0), P1.c (C.int IntKind.u8 0), P1.c (C.int IntKind.u8 0), P1.c (C.int IntKind.u8 0), P1.c (C.int IntKind.u8 0), P1.c (C.int IntKind.u8 0), P1.c (C.int IntKind.u8 0), P1.c (C.int IntKind.u8 0), P1.c (C.int IntKind.u8 0), P1.c (C.int IntKind.u8 0), P1.c (C.int IntKind.u8 0), P1.c (C.int IntKind.u8 0), P1.c (C.int IntKind.u8 0), P1.c (C.int IntKind.u8 0), P1.c (C.int IntKind.u8 0), P1.c (C.int IntKind.u8 0), P1.c (C.int IntKind.u8 0), P1.c (C.int IntKind.u8 0), P1.c (C.int IntKind.u8 0), P1.c (C.int IntKind.u8 0), P1.c (C.int IntKind.u8 0), P1.c (C.int IntKind.u8 0), P1.c (C.int IntKind.u8 0), P1.c (C.int IntKind.u8 0), P1.c (C.int IntKind.u8 0), P1.c (C.int IntKind.u8 0), P1.c (C.int IntKind.u8 0), P1.c (C.int IntKind.u8 0), P1.c (C.int IntKind.u8 0), P1.c (C.int IntKind.u8 0), P1.c (C.int IntKind.u8 0), P1.c (C.int IntKind.u8 0), P1.c (C.int IntKind.u8 0), P1.c (C.int IntKind.u8 0), P1.c (C.int IntKind.u8 0), P1.c (C.int IntKind.u8 0), P1.c (C.int IntKind.u8 0), P1.c (C.int IntKind.u8 0), P1.c (C.int IntKind.u8 0), P1.c (C.int IntKind.u8 0), P1.c (C.int IntKind.u8 0), P1.c (C.int IntKind.u8 0), P1.c (C.int IntKind.u8 0), P1.c (C.int IntKind.u8 0), P1.c (C.int IntKind.u8 0), P1.c (C.int IntKind.u8 0), P1.c (C.int IntKind.u8 0), P1.c (C.int IntKind.u8 0), P1.c (C.int IntKind.u8 0), P1.c (C.int IntKind.u8 0), P1.c (C.int IntKind.u8 0), P1.c (C.int IntKind.u8 0), P1.c (C.int IntKind.u8 0), P1.c (C.int IntKind.u8 0), P1.c (C.int IntKind.u8 0), P1.c (C.int IntKind.u8 0), P1.c (C.int IntKind.u8 0), P1.c (C.int IntKind.u8 0), P1.c (C.int IntKind.u8 0), P1.c (C.int IntKind.u8 0), P1.c (C.int IntKind.u8 0), P1.c (C.int IntKind.u8 0), P1.c (C.int IntKind.u8 0), P1.c (C.int IntKind.u8 0), P1.c (C.int IntKind.u8 0), P1.c (C.int IntKind.u8 0), P1.c (C.int IntKind.u8 0), P1.c (C.int IntKind.u8 0), P1.c (C.int IntKind.u8 0), P1.c (C.int IntKind.u8 0), P1.c (C.int IntKind.u8 0), P1.c (C.int IntKind.u8 0), P1.c (C.int IntKind.u8 0), P1.c (C.int IntKind.u8 0), P1.c (C.int IntKind.u8 0), P1.c (C.int IntKind.u8 0), P1.c (C.int IntKind.u8 0), P1.c (C.int IntKind.u8 0), P1.c (C.int IntKind.u8 0), P1.c (C.int IntKind.u8 0), P1.c (C.int IntKind.u8 0), P1.c (C.int IntKind.u8 0), P1.c (C.int IntKind.u8 0), P1.c (C.int IntKind.u8 0), P1.c (C.int IntKind.u8 0), P1.c (C.int IntKind.u8 0), P1.c (C.int IntKind.u8 0), P1.c (C.int IntKind.u8 0), P1.c (C.int IntKind.u8 0), P1.c (C.int IntKind.u8 0), P1.c (C.int IntKind.u8 0), P1.c (C.int IntKind.u8 0), P1.c (C.int IntKind.u8 0), P1.c (C.int IntKind.u8 0), P1.c (C.int IntKind.u8 0), P1.c (C.int IntKind.u8 0), P1.c (C.int IntKind.u8 0), P1.c (C.int IntKind.u8 0), P1.c (C.int IntKind.u8 0), P1.c (C.int IntKind.u8 0), P1.c (C.int IntKind.u8 0), P1.c (C.int IntKind.u8 0), P1.c (C.int IntKind.u8 0), P1.c (C.int IntKind.u8 0), P1.c (C.int IntKind.u8 0), P1.c (C.int IntKind.u8 0), P1.c (C.int IntKind.u8 0), P1.c (C.int IntKind.u8 0), P1.c (C.int IntKind.u8 0), P1.c (C.int IntKind.u8 0), P1.c (C.int IntKind.u8 0)] := by kernel_rfl
@[simp] theorem ti218 : ti Tryz.prog 218 = TI.mk true (TK.struct [(0, 1), (1, 1)]) 2 2 [P1.c (C.int IntKind.u8 0), P1.c (C.int IntKind.u8 0)] := by kernel_rfl
@[simp] theorem ti219 : ti Tryz.prog 219 = TI.mk true (TK.struct [(0, 1), (1, 1)]) 2 2 [P1.c (C.int IntKind.u8 0), P1.c (C.int IntKind.u8 0)] := by kernel_rfl
@[simp] theorem ti220 : ti Tryz.prog 220 = TI.mk true TK.other 32 32 [P1.c (C.int IntKind.u8 0), P1.c (C.int IntKind.u8 0), P1.c (C.int IntKind.u8 0), P1.c (C.int IntKind.u8 0), P1.c (C.int IntKind.u8 0), P1.c (C.int IntKind.u8 0), P1.c (C.int IntKind.u8 0), P1.c (C.int IntKind.u8 0), P1.c (C.int IntKind.u8 0), P1.c (C.int IntKind.u8 0), P1.c (C.int IntKind.u8 0), P1.c (C.int IntKind.u8 0), P1.c (C.int IntKind.u8 0), P1.c (C.int IntKind.u8 0), P1.c (C.int IntKind.u8 0), P1.c (C.int IntKind.u8 0), P1.c (C.int IntKind.u8 0), P1.c (C.int IntKind.u8 0), P1.c (C.int IntKind.u8 0), P1.c (C.int IntKind.u8 0), P1.c (C.int IntKind.u8 0), P1.c (C.int IntKind.u8 0), P1.c (C.int IntKind.u8 0), P1.c (C.int IntKind.u8 0), P1.c (C.int IntKind.u8 0), P1.c (C.int IntKind.u8 0), P1.c (C.int IntKind.u8 0), P1.c (C.int IntKind.u8 0), P1.c (C.int IntKind.u8 0), P1.c (C.int IntKind.u8 0), P1.c (C.int IntKind.u8 0), P1.c (C.int IntKind.u8 0)] := by kernel_rfl
@[simp] theorem ti221 : ti Tryz.prog 221 = TI.mk true TK.other 1 8 [P1.top] := by kernel_rfl
@[simp] theorem ti222 : ti Tryz.prog 222 = TI.mk true (TK.struct [(0, 1), (1, 1), (2, 1), (3, 1)]) 4 40 [P1.top, P1.top, P1.top, P1.c (C.str (⟨#[]⟩))] := by kernel_rfl
@[simp] theorem ti223 : ti Tryz.prog 223 = TI.mk true (TK.struct [(0, 1), (1, 1), (2, 1), (3, 1)]) 4 40 [P1.top, P1.top, P1.top, P1.c (C.str (⟨#[]⟩))] := by kernel_rfl
@[simp] theorem ti224 : ti Tryz.prog 224 = TI.mk true TK.other 0 0 [] := by kernel_rfl
@[simp] theorem ti225 : ti Tryz.prog 225 = TI.mk true (TK.struct [(0, 0)]) 0 0 [] := by kernel_rfl
@[simp] theorem ti226 : ti Tryz.prog 226 = TI.mk true (TK.struct [(0, 0)]) 0 0 [] := by kernel_rfl
@[simp] theorem ti227 : ti Tryz.prog 227 = TI.mk true (TK.int IntKind.u8) 1 1 [P1.c (C.int IntKind.u8 0)] := by kernel_rfl
@[simp] theorem ti228 : ti Tryz.prog 228 = TI.mk true (TK.int IntKind.u8) 1 1 [P1.c (C.int IntKind.u8 0)] := by kernel_rfl
@[simp] theorem ti229 : ti Tryz.prog 229 = TI.mk true TK.other 1 8 [P1.top] := by kernel_rfl
@[simp] theorem ti230 : ti Tryz.prog 230 = TI.mk true TK.other 1 8 [P1.top] := by kernel_rfl
@[simp] theorem ti231 : ti Tryz.prog 231 = TI.mk true (TK.int IntKind.i32) 1 4 [P1.c (C.int IntKind.i32 0)] := by kernel_rfl
@[simp] theorem ti232 : ti Tryz.prog 232 = TI.mk true (TK.int IntKind.i32) 1 4 [P1.c (C.int IntKind.i32 0)] := by kernel_rfl
@[simp] theorem ti233 : ti Tryz.prog 233 = TI.mk true (TK.struct [(0, 1), (1, 1), (2, 1), (3, 1), (4, 1), (5, 1), (6, 1), (7, 1), (8, 1), (9, 1), (10, 1)]) 11 48 [P1.c (C.int IntKind.u64 0), P1.c (C.int IntKind.u64 0), P1.c (C.int IntKind.u32 0), P1.c (C.int IntKind.u8 0), P1.c (C.int IntKind.u8 0), P1.c (C.int IntKind.u8 0), P1.c (C.int IntKind.u8 0), P1.top, P1.top, P1.c (C.int IntKind.i32 0), P1.c (C.int IntKind.i32 0)] := by kernel_rfl
@[simp] theorem ti234 : ti Tryz.prog 234 = TI.mk true (TK.struct [(0, 1), (1, 1), (2, 1), (3, 1), (4, 1), (5, 1), (6, 1), (7, 1), (8, 1), (9, 1), (10, 1)]) 11 48 [P1.c (C.int IntKind.u64 0), P1.c (C.int IntKind.u64 0), P1.c (C.int IntKind.u32 0), P1.c (C.int IntKind.u8 0), P1.c (C.int IntKind.u8 0), P1.c (C.int IntKind.u8 0), P1.c (C.int IntKind.u8 0), P1.top, P1.top, P1.c (C.int IntKind.i32 0), P1.c (C.int IntKind.i32 0)] := by kernel_rfl
@[simp] theorem ti235 : ti Tryz.prog 235 = TI.mk true TK.other 1 8 [P1.top] := by kernel_rfl
@[simp] theorem ti236 : ti Tryz.prog 236 = TI.mk true TK.other 1 8 [P1.top] := by kernel_rfl
theorem fi2 : FnIs Tryz.prog 2 (bodyOf Tryz.f2) 1 [] := ⟨_, Tryz.func2, rfl, rfl, rfl, by decide⟩
theorem fi3 : FnIs Tryz.prog 3 (bodyOf Tryz.f3) 64 [ResultVar.tmp 2] := ⟨_, Tryz.func3, rfl, rfl, rfl, by decide⟩
theorem fi4 : FnIs Tryz.prog 4 (bodyOf Tryz.f4) 45 [ResultVar.tmp 4] := ⟨_, Tryz.func4, rfl, rfl, rfl, by decide⟩
theorem fi5 : FnIs Tryz.prog 5 (bodyOf Tryz.f5) 45 [ResultVar.tmp 4] := ⟨_, Tryz.func5, rfl, rfl, rfl, by decide⟩
theorem fi6 : FnIs Tryz.prog 6 (bodyOf Tryz.f6) 115 [ResultVar.tmp 2] := ⟨_, Tryz.func6, rfl, rfl, rfl, by decide⟩
theorem fi7 : FnIs Tryz.prog 7 (bodyOf Tryz.f7) 76 [ResultVar.tmp 2] := ⟨_, Tryz.func7, rfl, rfl, rfl, by decide⟩
theorem fi8 : FnIs Tryz.prog 8 (bodyOf Tryz.f8) 68 [ResultVar.tmp 2] := ⟨_, Tryz.func8, rfl, rfl, rfl, by decide⟩
theorem fi9 : FnIs Tryz.prog 9 (bodyOf Tryz.f9) 31 [ResultVar.tmp 4] := ⟨_, Tryz.func9, rfl, rfl, rfl, by decide⟩
theorem fi10 : FnIs Tryz.prog 10 (bodyOf Tryz.f10) 53 [ResultVar.tmp 2] := ⟨_, Tryz.func10, rfl, rfl, rfl, by decide⟩
theorem fi11 : FnIs Tryz.prog 11 (bodyOf Tryz.f11) 82 [ResultVar.tmp 2] := ⟨_, Tryz.func11, rfl, rfl, rfl, by decide⟩
theorem fi12 : FnIs Tryz.prog 12 (bodyOf Tryz.f12) 119 [ResultVar.tmp 4] := ⟨_, Tryz.func12, rfl, rfl, rfl, by decide⟩
theorem fi13 : FnIs Tryz.prog 13 (bodyOf Tryz.f13) 53 [ResultVar.tmp 2] := ⟨_, Tryz.func13, rfl, rfl, rfl, by decide⟩
theorem fi14 : FnIs Tryz.prog 14 (bodyOf Tryz.f14) 9 [ResultVar.cell 2 25, ResultVar.cell 3 29] := ⟨_, Tryz.func14, rfl, rfl, rfl, by decide⟩
theorem fi15 : FnIs Tryz.prog 15 (bodyOf Tryz.f15) 14 [ResultVar.tmp 4] := ⟨_, Tryz.func15, rfl, rfl, rfl, by decide⟩
theorem fi16 : FnIs Tryz.prog 16 (bodyOf Tryz.f16) 13 [ResultVar.tmp 4] := ⟨_, Tryz.func16, rfl, rfl, rfl, by decide⟩
theorem fi17 : FnIs Tryz.prog 17 (bodyOf Tryz.f17) 16 [ResultVar.tmp 2] := ⟨_, Tryz.func17, rfl, rfl, rfl, by decide⟩
theorem fi18 : FnIs Tryz.prog 18 (bodyOf Tryz.f18) 23 [ResultVar.tmp 4] := ⟨_, Tryz.func18, rfl, rfl, rfl, by decide⟩
theorem fi19 : FnIs Tryz.prog 19 (bodyOf Tryz.f19) 12 [ResultVar.tmp 4] := ⟨_, Tryz.func19, rfl, rfl, rfl, by decide⟩
theorem fi20 : FnIs Tryz.prog 20 (bodyOf Tryz.f20) 13 [ResultVar.tmp 4] := ⟨_, Tryz.func20, rfl, rfl, rfl, by decide⟩
theorem fi21 : FnIs Tryz.prog 21 (bodyOf Tryz.f21) 9 [ResultVar.cell 2 25] := ⟨_, Tryz.func21, rfl, rfl, rfl, by decide⟩
theorem fi22 : FnIs Tryz.prog 22 (bodyOf Tryz.f22) 11 [ResultVar.tmp 4] := ⟨_, Tryz.func22, rfl, rfl, rfl, by decide⟩
theorem fi23 : FnIs Tryz.prog 23 (bodyOf Tryz.f23) 18 [ResultVar.tmp 4] := ⟨_, Tryz.func23, rfl, rfl, rfl, by decide⟩
theorem fi24 : FnIs Tryz.prog 24 (bodyOf Tryz.f24) 13 [ResultVar.tmp 4] := ⟨_, Tryz.func24, rfl, rfl, rfl, by decide⟩
theorem fi25 : FnIs Tryz.prog 25 (bodyOf Tryz.f25) 9 [ResultVar.cell 2 25, ResultVar.cell 3 25] := ⟨_, Tryz.func25, rfl, rfl, rfl, by decide⟩
theorem fi26 : FnIs Tryz.prog 26 (bodyOf Tryz.f26) 20 [ResultVar.cell 4 48, ResultVar.tmp 5] := ⟨_, Tryz.func26, rfl, rfl, rfl, by decide⟩
theorem fi27 : FnIs Tryz.prog 27 (bodyOf Tryz.f27) 28 [ResultVar.cell 4 48, ResultVar.tmp 5] := ⟨_, Tryz.func27, rfl, rfl, rfl, by decide⟩
theorem fi28 : FnIs Tryz.prog 28 (bodyOf Tryz.f28) 17 [ResultVar.tmp 4] := ⟨_, Tryz.func28, rfl, rfl, rfl, by decide⟩
theorem fi29 : FnIs Tryz.prog 29 (bodyOf Tryz.f29) 97 [ResultVar.tmp 2] := ⟨_, Tryz.func29, rfl, rfl, rfl, by decide⟩
theorem fi30 : FnIs Tryz.prog 30 (bodyOf Tryz.f30) 13 [ResultVar.tmp 4] := ⟨_, Tryz.func30, rfl, rfl, rfl, by decide⟩
theorem fi31 : FnIs Tryz.prog 31 (bodyOf Tryz.f31) 14 [ResultVar.tmp 4, ResultVar.tmp 5] := ⟨_, Tryz.func31, rfl, rfl, rfl, by decide⟩
theorem fi32 : FnIs Tryz.prog 32 (bodyOf Tryz.f32) 9 [ResultVar.cell 2 25, ResultVar.cell 3 25] := ⟨_, Tryz.func32, rfl, rfl, rfl, by decide⟩
theorem fi33 : FnIs Tryz.prog 33 (bodyOf Tryz.f33) 9 [ResultVar.cell 2 25] := ⟨_, Tryz.func33, rfl, rfl, rfl, by decide⟩
theorem fi34 : FnIs Tryz.prog 34 (bodyOf Tryz.f34) 27 [ResultVar.tmp 4] := ⟨_, Tryz.func34, rfl, rfl, rfl, by decide⟩
theorem fi35 : FnIs Tryz.prog 35 (bodyOf Tryz.f35) 19 [ResultVar.tmp 4] := ⟨_, Tryz.func35, rfl, rfl, rfl, by decide⟩
theorem fi36 : FnIs Tryz.prog 36 (bodyOf Tryz.f36) 23 [ResultVar.tmp 2] := ⟨_, Tryz.func36, rfl, rfl, rfl, by decide⟩
theorem fi37 : FnIs Tryz.prog 37 (bodyOf Tryz.f37) 21 [ResultVar.tmp 4] := ⟨_, Tryz.func37, rfl, rfl, rfl, by decide⟩
theorem fi38 : FnIs Tryz.prog 38 (bodyOf Tryz.f38) 27 [ResultVar.tmp 4] := ⟨_, Tryz.func38, rfl, rfl, rfl, by decide⟩
theorem fi39 : FnIs Tryz.prog 39 (bodyOf Tryz.f39) 39 [ResultVar.cell 4 25] := ⟨_, Tryz.func39, rfl, rfl, rfl, by decide⟩
theorem fi40 : FnIs Tryz.prog 40 (bodyOf Tryz.f40) 9 [ResultVar.cell 2 25, ResultVar.cell 3 25] := ⟨_, Tryz.func40, rfl, rfl, rfl, by decide⟩
theorem fi41 : FnIs Tryz.prog 41 (bodyOf Tryz.f41) 22 [ResultVar.cell 2 48, ResultVar.tmp 3] := ⟨_, Tryz.func41, rfl, rfl, rfl, by decide⟩
theorem fi42 : FnIs Tryz.prog 42 (bodyOf Tryz.f42) 16 [ResultVar.tmp 4] := ⟨_, Tryz.func42, rfl, rfl, rfl, by decide⟩
theorem fi43 : FnIs Tryz.prog 43 (bodyOf Tryz.f43) 10 [ResultVar.tmp 4] := ⟨_, Tryz.func43, rfl, rfl, rfl, by decide⟩
theorem fi44 : FnIs Tryz.prog 44 (bodyOf Tryz.f44) 10 [ResultVar.tmp 4] := ⟨_, Tryz.func44, rfl, rfl, rfl, by decide⟩
theorem fi45 : FnIs Tryz.prog 45 (bodyOf Tryz.f45) 12 [ResultVar.tmp 4] := ⟨_, Tryz.func45, rfl, rfl, rfl, by decide⟩
theorem fi46 : FnIs Tryz.prog 46 (bodyOf Tryz.f46) 27 [ResultVar.tmp 2, ResultVar.tmp 3] := ⟨_, Tryz.func46, rfl, rfl, rfl, by decide⟩
theorem fi47 : FnIs Tryz.prog 47 (bodyOf Tryz.f47) 42 [ResultVar.cell 2 25, ResultVar.cell 3 29] := ⟨_, Tryz.func47, rfl, rfl, rfl, by decide⟩
theorem fi48 : FnIs Tryz.prog 48 (bodyOf Tryz.f48) 11 [ResultVar.tmp 2] := ⟨_, Tryz.func48, rfl, rfl, rfl, by decide⟩
theorem fi49 : FnIs Tryz.prog 49 (bodyOf Tryz.f49) 24 [ResultVar.cell 4 78, ResultVar.tmp 5] := ⟨_, Tryz.func49, rfl, rfl, rfl, by decide⟩
theorem fi50 : FnIs Tryz.prog 50 (bodyOf Tryz.f50) 11 [ResultVar.tmp 4] := ⟨_, Tryz.func50, rfl, rfl, rfl, by decide⟩
theorem fi51 : FnIs Tryz.prog 51 (bodyOf Tryz.f51) 10 [ResultVar.tmp 4] := ⟨_, Tryz.func51, rfl, rfl, rfl, by decide⟩
theorem fi52 : FnIs Tryz.prog 52 (bodyOf Tryz.f52) 65 [ResultVar.cell 4 48, ResultVar.tmp 5] := ⟨_, Tryz.func52, rfl, rfl, rfl, by decide⟩
theorem fi53 : FnIs Tryz.prog 53 (bodyOf Tryz.f53) 27 [ResultVar.tmp 4] := ⟨_, Tryz.func53, rfl, rfl, rfl, by decide⟩
theorem fi54 : FnIs Tryz.prog 54 (bodyOf Tryz.f54) 11 [ResultVar.tmp 4] := ⟨_, Tryz.func54, rfl, rfl, rfl, by decide⟩
theorem fi55 : FnIs Tryz.prog 55 (bodyOf Tryz.f55) 15 [ResultVar.tmp 4] := ⟨_, Tryz.func55, rfl, rfl, rfl, by decide⟩
theorem fi56 : FnIs Tryz.prog 56 (bodyOf Tryz.f56) 23 [ResultVar.tmp 2] := ⟨_, Tryz.func56, rfl, rfl, rfl, by decide⟩
theorem fi57 : FnIs Tryz.prog 57 (bodyOf Tryz.f57) 27 [ResultVar.tmp 4] := ⟨_, Tryz.func57, rfl, rfl, rfl, by decide⟩
theorem fi58 : FnIs Tryz.prog 58 (bodyOf Tryz.f58) 21 [ResultVar.cell 2 25, ResultVar.cell 3 25] := ⟨_, Tryz.func58, rfl, rfl, rfl, by decide⟩
theorem fi59 : FnIs Tryz.prog 59 (bodyOf Tryz.f59) 46 [ResultVar.cell 6 48, ResultVar.tmp 7] := ⟨_, Tryz.func59, rfl, rfl, rfl, by decide⟩
theorem fi60 : FnIs Tryz.prog 60 (bodyOf Tryz.f60) 26 [ResultVar.tmp 4] := ⟨_, Tryz.func60, rfl, rfl, rfl, by decide⟩
theorem fi61 : FnIs Tryz.prog 61 (bodyOf Tryz.f61) 23 [ResultVar.tmp 2] := ⟨_, Tryz.func61, rfl, rfl, rfl, by decide⟩
theorem fi62 : FnIs Tryz.prog 62 (bodyOf Tryz.f62) 15 [ResultVar.tmp 6] := ⟨_, Tryz.func62, rfl, rfl, rfl, by decide⟩
theorem fi63 : FnIs Tryz.prog 63 (bodyOf Tryz.f63) 5 [ResultVar.tmp 2] := ⟨_, Tryz.func63, rfl, rfl, rfl, by decide⟩
theorem fi64 : FnIs Tryz.prog 64 (bodyOf Tryz.f64) 10 [ResultVar.tmp 2] := ⟨_, Tryz.func64, rfl, rfl, rfl, by decide⟩
theorem fi65 : FnIs Tryz.prog 65 (bodyOf Tryz.f65) 11 [ResultVar.tmp 2] := ⟨_, Tryz.func65, rfl, rfl, rfl, by decide⟩
theorem fi66 : FnIs Tryz.prog 66 (bodyOf Tryz.f66) 8 [ResultVar.tmp 4] := ⟨_, Tryz.func66, rfl, rfl, rfl, by decide⟩
theorem fi67 : FnIs Tryz.prog 67 (bodyOf Tryz.f67) 40 [ResultVar.tmp 2] := ⟨_, Tryz.func67, rfl, rfl, rfl, by decide⟩
theorem fi68 : FnIs Tryz.prog 68 (bodyOf Tryz.f68) 31 [ResultVar.cell 2 29] := ⟨_, Tryz.func68, rfl, rfl, rfl, by decide⟩
theorem fi69 : FnIs Tryz.prog 69 (bodyOf Tryz.f69) 64 [ResultVar.tmp 4, ResultVar.tmp 5] := ⟨_, Tryz.func69, rfl, rfl, rfl, by decide⟩
theorem fi70 : FnIs Tryz.prog 70 (bodyOf Tryz.f70) 30 [ResultVar.cell 4 25] := ⟨_, Tryz.func70, rfl, rfl, rfl, by decide⟩
theorem fi71 : FnIs Tryz.prog 71 (bodyOf Tryz.f71) 19 [ResultVar.tmp 2] := ⟨_, Tryz.func71, rfl, rfl, rfl, by decide⟩
theorem fi72 : FnIs Tryz.prog 72 (bodyOf Tryz.f72) 15 [ResultVar.tmp 6] := ⟨_, Tryz.func72, rfl, rfl, rfl, by decide⟩
theorem fi73 : FnIs Tryz.prog 73 (bodyOf Tryz.f73) 21 [ResultVar.tmp 4] := ⟨_, Tryz.func73, rfl, rfl, rfl, by decide⟩
theorem fi74 : FnIs Tryz.prog 74 (bodyOf Tryz.f74) 11 [ResultVar.tmp 2] := ⟨_, Tryz.func74, rfl, rfl, rfl, by decide⟩
theorem fi75 : FnIs Tryz.prog 75 (bodyOf Tryz.f75) 19 [ResultVar.tmp 4] := ⟨_, Tryz.func75, rfl, rfl, rfl, by decide⟩
theorem fi76 : FnIs Tryz.prog 76 (bodyOf Tryz.f76) 11 [ResultVar.tmp 4] := ⟨_, Tryz.func76, rfl, rfl, rfl, by decide⟩
theorem fi77 : FnIs Tryz.prog 77 (bodyOf Tryz.f77) 33 [ResultVar.tmp 2] := ⟨_, Tryz.func77, rfl, rfl, rfl, by decide⟩
theorem fi78 : FnIs Tryz.prog 78 (bodyOf Tryz.f78) 7 [ResultVar.cell 2 25] := ⟨_, Tryz.func78, rfl, rfl, rfl, by decide⟩
theorem fi79 : FnIs Tryz.prog 79 (bodyOf Tryz.f79) 21 [ResultVar.tmp 4] := ⟨_, Tryz.func79, rfl, rfl, rfl, by decide⟩
theorem fi80 : FnIs Tryz.prog 80 (bodyOf Tryz.f80) 26 [ResultVar.tmp 4] := ⟨_, Tryz.func80, rfl, rfl, rfl, by decide⟩
theorem fi81 : FnIs Tryz.prog 81 (bodyOf Tryz.f81) 44 [ResultVar.tmp 4] := ⟨_, Tryz.func81, rfl, rfl, rfl, by decide⟩
theorem fi82 : FnIs Tryz.prog 82 (bodyOf Tryz.f82) 20 [ResultVar.tmp 4] := ⟨_, Tryz.func82, rfl, rfl, rfl, by decide⟩
theorem fi83 : FnIs Tryz.prog 83 (bodyOf Tryz.f83) 22 [ResultVar.tmp 4] := ⟨_, Tryz.func83, rfl, rfl, rfl, by decide⟩
theorem fi84 : FnIs Tryz.prog 84 (bodyOf Tryz.f84) 47 [ResultVar.tmp 2] := ⟨_, Tryz.func84, rfl, rfl, rfl, by decide⟩
theorem fi85 : FnIs Tryz.prog 85 (bodyOf Tryz.f85) 12 [ResultVar.tmp 4] := ⟨_, Tryz.func85, rfl, rfl, rfl, by decide⟩
theorem fi86 : FnIs Tryz.prog 86 (bodyOf Tryz.f86) 99 [ResultVar.tmp 4] := ⟨_, Tryz.func86, rfl, rfl, rfl, by decide⟩
theorem fi87 : FnIs Tryz.prog 87 (bodyOf Tryz.f87) 62 [ResultVar.cell 2 25] := ⟨_, Tryz.func87, rfl, rfl, rfl, by decide⟩
theorem fi88 : FnIs Tryz.prog 88 (bodyOf Tryz.f88) 35 [ResultVar.cell 2 29] := ⟨_, Tryz.func88, rfl, rfl, rfl, by decide⟩
theorem fi89 : FnIs Tryz.prog 89 (bodyOf Tryz.f89) 6 [ResultVar.tmp 2] := ⟨_, Tryz.func89, rfl, rfl, rfl, by decide⟩
theorem fi90 : FnIs Tryz.prog 90 (bodyOf Tryz.f90) 166 [ResultVar.cell 4 29] := ⟨_, Tryz.func90, rfl, rfl, rfl, by decide⟩
theorem fi91 : FnIs Tryz.prog 91 (bodyOf Tryz.f91) 25 [ResultVar.tmp 4] := ⟨_, Tryz.func91, rfl, rfl, rfl, by decide⟩
theorem fi92 : FnIs Tryz.prog 92 (bodyOf Tryz.f92) 6 [ResultVar.tmp 2] := ⟨_, Tryz.func92, rfl, rfl, rfl, by decide⟩
theorem fi93 : FnIs Tryz.prog 93 (bodyOf Tryz.f93) 6 [ResultVar.tmp 2] := ⟨_, Tryz.func93, rfl, rfl, rfl, by decide⟩
theorem fi94 : FnIs Tryz.prog 94 (bodyOf Tryz.f94) 40 [ResultVar.cell 2 29] := ⟨_, Tryz.func94, rfl, rfl, rfl, by decide⟩
theorem fi95 : FnIs Tryz.prog 95 (bodyOf Tryz.f95) 11 [ResultVar.tmp 4] := ⟨_, Tryz.func95, rfl, rfl, rfl, by decide⟩
theorem fi96 : FnIs Tryz.prog 96 (bodyOf Tryz.f96) 177 [ResultVar.cell 4 78, ResultVar.tmp 5] := ⟨_, Tryz.func96, rfl, rfl, rfl, by decide⟩
theorem fi97 : FnIs Tryz.prog 97 (bodyOf Tryz.f97) 43 [ResultVar.tmp 2] := ⟨_, Tryz.func97, rfl, rfl, rfl, by decide⟩
theorem fi98 : FnIs Tryz.prog 98 (bodyOf Tryz.f98) 18 [ResultVar.tmp 4] := ⟨_, Tryz.func98, rfl, rfl, rfl, by decide⟩
theorem fi99 : FnIs Tryz.prog 99 (bodyOf Tryz.f99) 57 [ResultVar.tmp 4] := ⟨_, Tryz.func99, rfl, rfl, rfl, by decide⟩
theorem fi100 : FnIs Tryz.prog 100 (bodyOf Tryz.f100) 15 [ResultVar.tmp 4] := ⟨_, Tryz.func100, rfl, rfl, rfl, by decide⟩
theorem fi101 : FnIs Tryz.prog 101 (bodyOf Tryz.f101) 9 [ResultVar.tmp 4] := ⟨_, Tryz.func101, rfl, rfl, rfl, by decide⟩
theorem fi102 : FnIs Tryz.prog 102 (bodyOf Tryz.f102) 13 [ResultVar.tmp 4] := ⟨_, Tryz.func102, rfl, rfl, rfl, by decide⟩
theorem fi103 : FnIs Tryz.prog 103 (bodyOf Tryz.f103) 17 [ResultVar.cell 2 35] := ⟨_, Tryz.func103, rfl, rfl, rfl, by decide⟩
theorem fi104 : FnIs Tryz.prog 104 (bodyOf Tryz.f104) 25 [ResultVar.tmp 4] := ⟨_, Tryz.func104, rfl, rfl, rfl, by decide⟩
theorem fi105 : FnIs Tryz.prog 105 (bodyOf Tryz.f105) 122 [ResultVar.cell 4 25] := ⟨_, Tryz.func105, rfl, rfl, rfl, by decide⟩
theorem fi106 : FnIs Tryz.prog 106 (bodyOf Tryz.f106) 40 [ResultVar.tmp 4] := ⟨_, Tryz.func106, rfl, rfl, rfl, by decide⟩
theorem fi107 : FnIs Tryz.prog 107 (bodyOf Tryz.f107) 43 [ResultVar.tmp 4] := ⟨_, Tryz.func107, rfl, rfl, rfl, by decide⟩
theorem fi108 : FnIs Tryz.prog 108 (bodyOf Tryz.f108) 29 [ResultVar.cell 2 29] := ⟨_, Tryz.func108, rfl, rfl, rfl, by decide⟩
theorem fi109 : FnIs Tryz.prog 109 (bodyOf Tryz.f109) 95 [ResultVar.tmp 6] := ⟨_, Tryz.func109, rfl, rfl, rfl, by decide⟩
theorem fi110 : FnIs Tryz.prog 110 (bodyOf Tryz.f110) 61 [ResultVar.tmp 2] := ⟨_, Tryz.func110, rfl, rfl, rfl, by decide⟩
theorem fi111 : FnIs Tryz.prog 111 (bodyOf Tryz.f111) 19 [ResultVar.tmp 4] := ⟨_, Tryz.func111, rfl, rfl, rfl, by decide⟩
theorem fi112 : FnIs Tryz.prog 112 (bodyOf Tryz.f112) 8 [ResultVar.tmp 3] := ⟨_, Tryz.func112, rfl, rfl, rfl, by decide⟩
theorem fi113 : FnIs Tryz.prog 113 (bodyOf Tryz.f113) 10 [ResultVar.cell 2 29] := ⟨_, Tryz.func113, rfl, rfl, rfl, by decide⟩
theorem fi114 : FnIs Tryz.prog 114 (bodyOf Tryz.f114) 6 [ResultVar.tmp 2] := ⟨_, Tryz.func114, rfl, rfl, rfl, by decide⟩
theorem fi115 : FnIs Tryz.prog 115 (bodyOf Tryz.f115) 9 [ResultVar.tmp 4] := ⟨_, Tryz.func115, rfl, rfl, rfl, by decide⟩
theorem fi116 : FnIs Tryz.prog 116 (bodyOf Tryz.f116) 11 [] := ⟨_, Tryz.func116, rfl, rfl, rfl, by decide⟩
theorem fi117 : FnIs Tryz.prog 117 (bodyOf Tryz.f117) 9 [ResultVar.tmp 2] := ⟨_, Tryz.func117, rfl, rfl, rfl, by decide⟩
theorem fi118 : FnIs Tryz.prog 118 (bodyOf Tryz.f118) 9 [ResultVar.tmp 4] := ⟨_, Tryz.func118, rfl, rfl, rfl, by decide⟩
theorem fi119 : FnIs Tryz.prog 119 (bodyOf Tryz.f119) 6 [ResultVar.tmp 2] := ⟨_, Tryz.func119, rfl, rfl, rfl, by decide⟩
theorem fi120 : FnIs Tryz.prog 120 (bodyOf Tryz.f120) 9 [ResultVar.tmp 4] := ⟨_, Tryz.func120, rfl, rfl, rfl, by decide⟩
theorem fi121 : FnIs Tryz.prog 121 (bodyOf Tryz.f121) 9 [ResultVar.tmp 3] := ⟨_, Tryz.func121, rfl, rfl, rfl, by decide⟩
theorem fi122 : FnIs Tryz.prog 122 (bodyOf Tryz.f122) 16 [ResultVar.tmp 3] := ⟨_, Tryz.func122, rfl, rfl, rfl, by decide⟩
theorem fi123 : FnIs Tryz.prog 123 (bodyOf Tryz.f123) 6 [ResultVar.tmp 2] := ⟨_, Tryz.func123, rfl, rfl, rfl, by decide⟩
theorem fi124 : FnIs Tryz.prog 124 (bodyOf Tryz.f124) 20 [ResultVar.tmp 2] := ⟨_, Tryz.func124, rfl, rfl, rfl, by decide⟩
theorem fi125 : FnIs Tryz.prog 125 (bodyOf Tryz.f125) 65 [ResultVar.cell 2 25] := ⟨_, Tryz.func125, rfl, rfl, rfl, by decide⟩
theorem fi126 : FnIs Tryz.prog 126 (bodyOf Tryz.f126) 11 [ResultVar.tmp 2] := ⟨_, Tryz.func126, rfl, rfl, rfl, by decide⟩
theorem fi127 : FnIs Tryz.prog 127 (bodyOf Tryz.f127) 11 [ResultVar.tmp 2] := ⟨_, Tryz.func127, rfl, rfl, rfl, by decide⟩
theorem fi128 : FnIs Tryz.prog 128 (bodyOf Tryz.f128) 68 [ResultVar.tmp 2] := ⟨_, Tryz.func128, rfl, rfl, rfl, by decide⟩
theorem fi129 : FnIs Tryz.prog 129 (bodyOf Tryz.f129) 21 [ResultVar.tmp 2] := ⟨_, Tryz.func129, rfl, rfl, rfl, by decide⟩
theorem fi130 : FnIs Tryz.prog 130 (bodyOf Tryz.f130) 11 [ResultVar.tmp 2] := ⟨_, Tryz.func130, rfl, rfl, rfl, by decide⟩
theorem fi131 : FnIs Tryz.prog 131 (bodyOf Tryz.f131) 11 [ResultVar.tmp 2] := ⟨_, Tryz.func131, rfl, rfl, rfl, by decide⟩
theorem fi132 : FnIs Tryz.prog 132 (bodyOf Tryz.f132) 20 [ResultVar.tmp 4] := ⟨_, Tryz.func132, rfl, rfl, rfl, by decide⟩
theorem fi133 : FnIs Tryz.prog 133 (bodyOf Tryz.f133) 12 [ResultVar.tmp 4] := ⟨_, Tryz.func133, rfl, rfl, rfl, by decide⟩
theorem fi134 : FnIs Tryz.prog 134 (bodyOf Tryz.f134) 42 [ResultVar.tmp 2] := ⟨_, Tryz.func134, rfl, rfl, rfl, by decide⟩
theorem fi135 : FnIs Tryz.prog 135 (bodyOf Tryz.f135) 6 [ResultVar.tmp 2] := ⟨_, Tryz.func135, rfl, rfl, rfl, by decide⟩
theorem fi136 : FnIs Tryz.prog 136 (bodyOf Tryz.f136) 24 [ResultVar.tmp 4] := ⟨_, Tryz.func136, rfl, rfl, rfl, by decide⟩
theorem fi137 : FnIs Tryz.prog 137 (bodyOf Tryz.f137) 9 [ResultVar.tmp 2] := ⟨_, Tryz.func137, rfl, rfl, rfl, by decide⟩
theorem fi138 : FnIs Tryz.prog 138 (bodyOf Tryz.f138) 9 [ResultVar.tmp 2] := ⟨_, Tryz.func138, rfl, rfl, rfl, by decide⟩
theorem fi139 : FnIs Tryz.prog 139 (bodyOf Tryz.f139) 16 [ResultVar.tmp 2] := ⟨_, Tryz.func139, rfl, rfl, rfl, by decide⟩
theorem fi140 : FnIs Tryz.prog 140 (bodyOf Tryz.f140) 26 [ResultVar.tmp 2] := ⟨_, Tryz.func140, rfl, rfl, rfl, by decide⟩
theorem fi141 : FnIs Tryz.prog 141 (bodyOf Tryz.f141) 148 [ResultVar.cell 4 78, ResultVar.tmp 5] := ⟨_, Tryz.func141, rfl, rfl, rfl, by decide⟩
theorem fi142 : FnIs Tryz.prog 142 (bodyOf Tryz.f142) 44 [ResultVar.tmp 4] := ⟨_, Tryz.func142, rfl, rfl, rfl, by decide⟩
theorem fi143 : FnIs Tryz.prog 143 (bodyOf Tryz.f143) 36 [ResultVar.tmp 2] := ⟨_, Tryz.func143, rfl, rfl, rfl, by decide⟩
theorem fi144 : FnIs Tryz.prog 144 (bodyOf Tryz.f144) 37 [ResultVar.tmp 4] := ⟨_, Tryz.func144, rfl, rfl, rfl, by decide⟩
theorem fi145 : FnIs Tryz.prog 145 (bodyOf Tryz.f145) 36 [ResultVar.tmp 2] := ⟨_, Tryz.func145, rfl, rfl, rfl, by decide⟩
theorem fi146 : FnIs Tryz.prog 146 (bodyOf Tryz.f146) 61 [ResultVar.tmp 2] := ⟨_, Tryz.func146, rfl, rfl, rfl, by decide⟩
theorem fi147 : FnIs Tryz.prog 147 (bodyOf Tryz.f147) 19 [ResultVar.tmp 4] := ⟨_, Tryz.func147, rfl, rfl, rfl, by decide⟩
theorem fi148 : FnIs Tryz.prog 148 (bodyOf Tryz.f148) 6 [ResultVar.tmp 2] := ⟨_, Tryz.func148, rfl, rfl, rfl, by decide⟩
theorem fi149 : FnIs Tryz.prog 149 (bodyOf Tryz.f149) 20 [ResultVar.tmp 4] := ⟨_, Tryz.func149, rfl, rfl, rfl, by decide⟩
theorem fi150 : FnIs Tryz.prog 150 (bodyOf Tryz.f150) 20 [ResultVar.tmp 6] := ⟨_, Tryz.func150, rfl, rfl, rfl, by decide⟩
theorem fi151 : FnIs Tryz.prog 151 (bodyOf Tryz.f151) 18 [ResultVar.tmp 4] := ⟨_, Tryz.func151, rfl, rfl, rfl, by decide⟩
theorem fi152 : FnIs Tryz.prog 152 (bodyOf Tryz.f152) 44 [ResultVar.tmp 2] := ⟨_, Tryz.func152, rfl, rfl, rfl, by decide⟩
theorem fi153 : FnIs Tryz.prog 153 (bodyOf Tryz.f153) 32 [ResultVar.tmp 6] := ⟨_, Tryz.func153, rfl, rfl, rfl, by decide⟩
theorem fi154 : FnIs Tryz.prog 154 (bodyOf Tryz.f154) 6 [ResultVar.tmp 2] := ⟨_, Tryz.func154, rfl, rfl, rfl, by decide⟩
theorem fi155 : FnIs Tryz.prog 155 (bodyOf Tryz.f155) 26 [ResultVar.tmp 4] := ⟨_, Tryz.func155, rfl, rfl, rfl, by decide⟩
theorem fi156 : FnIs Tryz.prog 156 (bodyOf Tryz.f156) 9 [ResultVar.tmp 4] := ⟨_, Tryz.func156, rfl, rfl, rfl, by decide⟩
theorem fi157 : FnIs Tryz.prog 157 (bodyOf Tryz.f157) 8 [ResultVar.tmp 3] := ⟨_, Tryz.func157, rfl, rfl, rfl, by decide⟩
theorem fi158 : FnIs Tryz.prog 158 (bodyOf Tryz.f158) 134 [] := ⟨_, Tryz.func158, rfl, rfl, rfl, by decide⟩
theorem fi159 : FnIs Tryz.prog 159 (bodyOf Tryz.f159) 8 [ResultVar.tmp 2] := ⟨_, Tryz.func159, rfl, rfl, rfl, by decide⟩
theorem fi160 : FnIs Tryz.prog 160 (bodyOf Tryz.f160) 19 [ResultVar.tmp 4] := ⟨_, Tryz.func160, rfl, rfl, rfl, by decide⟩
theorem fi161 : FnIs Tryz.prog 161 (bodyOf Tryz.f161) 9 [ResultVar.tmp 2] := ⟨_, Tryz.func161, rfl, rfl, rfl, by decide⟩
theorem fi162 : FnIs Tryz.prog 162 (bodyOf Tryz.f162) 8 [ResultVar.tmp 2] := ⟨_, Tryz.func162, rfl, rfl, rfl, by decide⟩
theorem fi163 : FnIs Tryz.prog 163 (bodyOf Tryz.f163) 9 [ResultVar.tmp 2] := ⟨_, Tryz.func163, rfl, rfl, rfl, by decide⟩
theorem fi164 : FnIs Tryz.prog 164 (bodyOf Tryz.f164) 34 [ResultVar.tmp 2] := ⟨_, Tryz.func164, rfl, rfl, rfl, by decide⟩
theorem fi165 : FnIs Tryz.prog 165 (bodyOf Tryz.f165) 20 [ResultVar.tmp 4] := ⟨_, Tryz.func165, rfl, rfl, rfl, by decide⟩
theorem fi166 : FnIs Tryz.prog 166 (bodyOf Tryz.f166) 11 [ResultVar.tmp 2] := ⟨_, Tryz.func166, rfl, rfl, rfl, by decide⟩
theorem fi167 : FnIs Tryz.prog 167 (bodyOf Tryz.f167) 8 [ResultVar.tmp 4] := ⟨_, Tryz.func167, rfl, rfl, rfl, by decide⟩
theorem fi168 : FnIs Tryz.prog 168 (bodyOf Tryz.f168) 6 [ResultVar.tmp 2] := ⟨_, Tryz.func168, rfl, rfl, rfl, by decide⟩
theorem fi169 : FnIs Tryz.prog 169 (bodyOf Tryz.f169) 9 [ResultVar.tmp 2] := ⟨_, Tryz.func169, rfl, rfl, rfl, by decide⟩
theorem fi170 : FnIs Tryz.prog 170 (bodyOf Tryz.f170) 8 [ResultVar.tmp 2] := ⟨_, Tryz.func170, rfl, rfl, rfl, by decide⟩
theorem fi171 : FnIs Tryz.prog 171 (bodyOf Tryz.f171) 11 [ResultVar.tmp 2] := ⟨_, Tryz.func171, rfl, rfl, rfl, by decide⟩
theorem fi172 : FnIs Tryz.prog 172 (bodyOf Tryz.f172) 6 [ResultVar.tmp 2] := ⟨_, Tryz.func172, rfl, rfl, rfl, by decide⟩
theorem fi173 : FnIs Tryz.prog 173 (bodyOf Tryz.f173) 5 [ResultVar.tmp 2] := ⟨_, Tryz.func173, rfl, rfl, rfl, by decide⟩
theorem fi174 : FnIs Tryz.prog 174 (bodyOf Tryz.f174) 23 [ResultVar.tmp 2] := ⟨_, Tryz.func174, rfl, rfl, rfl, by decide⟩
theorem fi175 : FnIs Tryz.prog 175 (bodyOf Tryz.f175) 8 [ResultVar.cell 2 78] := ⟨_, Tryz.func175, rfl, rfl, rfl, by decide⟩
theorem fi176 : FnIs Tryz.prog 176 (bodyOf Tryz.f176) 24 [ResultVar.tmp 4] := ⟨_, Tryz.func176, rfl, rfl, rfl, by decide⟩
theorem fi177 : FnIs Tryz.prog 177 (bodyOf Tryz.f177) 27 [ResultVar.tmp 4] := ⟨_, Tryz.func177, rfl, rfl, rfl, by decide⟩
theorem fi178 : FnIs Tryz.prog 178 (bodyOf Tryz.f178) 23 [ResultVar.tmp 4] := ⟨_, Tryz.func178, rfl, rfl, rfl, by decide⟩
theorem fi179 : FnIs Tryz.prog 179 (bodyOf Tryz.f179) 21 [ResultVar.cell 2 176, ResultVar.tmp 3] := ⟨_, Tryz.func179, rfl, rfl, rfl, by decide⟩
theorem fi180 : FnIs Tryz.prog 180 (bodyOf Tryz.f180) 22 [ResultVar.tmp 4] := ⟨_, Tryz.func180, rfl, rfl, rfl, by decide⟩
theorem fi181 : FnIs Tryz.prog 181 (bodyOf Tryz.f181) 34 [ResultVar.tmp 4] := ⟨_, Tryz.func181, rfl, rfl, rfl, by decide⟩
theorem fi182 : FnIs Tryz.prog 182 (bodyOf Tryz.f182) 27 [ResultVar.tmp 4] := ⟨_, Tryz.func182, rfl, rfl, rfl, by decide⟩
theorem fi183 : FnIs Tryz.prog 183 (bodyOf Tryz.f183) 8 [ResultVar.tmp 2] := ⟨_, Tryz.func183, rfl, rfl, rfl, by decide⟩
theorem fi184 : FnIs Tryz.prog 184 (bodyOf Tryz.f184) 49 [] := ⟨_, Tryz.func184, rfl, rfl, rfl, by decide⟩
theorem fi185 : FnIs Tryz.prog 185 (bodyOf Tryz.f185) 56 [] := ⟨_, Tryz.func185, rfl, rfl, rfl, by decide⟩
theorem fi186 : FnIs Tryz.prog 186 (bodyOf Tryz.f186) 65 [] := ⟨_, Tryz.func186, rfl, rfl, rfl, by decide⟩
theorem fi187 : FnIs Tryz.prog 187 (bodyOf Tryz.f187) 57 [ResultVar.tmp 6, ResultVar.tmp 7] := ⟨_, Tryz.func187, rfl, rfl, rfl, by decide⟩
theorem fi188 : FnIs Tryz.prog 188 (bodyOf Tryz.f188) 32 [] := ⟨_, Tryz.func188, rfl, rfl, rfl, by decide⟩
theorem fi189 : FnIs Tryz.prog 189 (bodyOf Tryz.f189) 133 [ResultVar.tmp 6] := ⟨_, Tryz.func189, rfl, rfl, rfl, by decide⟩
theorem fi190 : FnIs Tryz.prog 190 (bodyOf Tryz.f190) 17 [ResultVar.tmp 4] := ⟨_, Tryz.func190, rfl, rfl, rfl, by decide⟩
theorem fi191 : FnIs Tryz.prog 191 (bodyOf Tryz.f191) 84 [ResultVar.tmp 8] := ⟨_, Tryz.func191, rfl, rfl, rfl, by decide⟩
theorem fi192 : FnIs Tryz.prog 192 (bodyOf Tryz.f192) 168 [ResultVar.tmp 8, ResultVar.tmp 9] := ⟨_, Tryz.func192, rfl, rfl, rfl, by decide⟩
theorem fi193 : FnIs Tryz.prog 193 (bodyOf Tryz.f193) 19 [ResultVar.tmp 2] := ⟨_, Tryz.func193, rfl, rfl, rfl, by decide⟩
theorem fi194 : FnIs Tryz.prog 194 (bodyOf Tryz.f194) 25 [ResultVar.tmp 2] := ⟨_, Tryz.func194, rfl, rfl, rfl, by decide⟩
theorem fi195 : FnIs Tryz.prog 195 (bodyOf Tryz.f195) 19 [ResultVar.tmp 4] := ⟨_, Tryz.func195, rfl, rfl, rfl, by decide⟩
theorem fi196 : FnIs Tryz.prog 196 (bodyOf Tryz.f196) 8 [ResultVar.tmp 3] := ⟨_, Tryz.func196, rfl, rfl, rfl, by decide⟩
theorem fi197 : FnIs Tryz.prog 197 (bodyOf Tryz.f197) 9 [ResultVar.tmp 4] := ⟨_, Tryz.func197, rfl, rfl, rfl, by decide⟩
theorem fi198 : FnIs Tryz.prog 198 (bodyOf Tryz.f198) 6 [ResultVar.tmp 2] := ⟨_, Tryz.func198, rfl, rfl, rfl, by decide⟩
theorem fi199 : FnIs Tryz.prog 199 (bodyOf Tryz.f199) 10 [ResultVar.tmp 4] := ⟨_, Tryz.func199, rfl, rfl, rfl, by decide⟩
theorem fi200 : FnIs Tryz.prog 200 (bodyOf Tryz.f200) 51 [ResultVar.tmp 2, ResultVar.tmp 3] := ⟨_, Tryz.func200, rfl, rfl, rfl, by decide⟩
theorem fi201 : FnIs Tryz.prog 201 (bodyOf Tryz.f201) 9 [ResultVar.tmp 4] := ⟨_, Tryz.func201, rfl, rfl, rfl, by decide⟩
theorem fi202 : FnIs Tryz.prog 202 (bodyOf Tryz.f202) 76 [] := ⟨_, Tryz.func202, rfl, rfl, rfl, by decide⟩
theorem fi203 : FnIs Tryz.prog 203 (bodyOf Tryz.f203) 7 [ResultVar.tmp 2] := ⟨_, Tryz.func203, rfl, rfl, rfl, by decide⟩
theorem fi204 : FnIs Tryz.prog 204 (bodyOf Tryz.f204) 33 [ResultVar.tmp 2] := ⟨_, Tryz.func204, rfl, rfl, rfl, by decide⟩
theorem fi205 : FnIs Tryz.prog 205 (bodyOf Tryz.f205) 15 [ResultVar.tmp 6] := ⟨_, Tryz.func205, rfl, rfl, rfl, by decide⟩
theorem fi206 : FnIs Tryz.prog 206 (bodyOf Tryz.f206) 36 [ResultVar.tmp 10] := ⟨_, Tryz.func206, rfl, rfl, rfl, by decide⟩
theorem fi207 : FnIs Tryz.prog 207 (bodyOf Tryz.f207) 6 [ResultVar.tmp 2] := ⟨_, Tryz.func207, rfl, rfl, rfl, by decide⟩
theorem fi208 : FnIs Tryz.prog 208 (bodyOf Tryz.f208) 19 [ResultVar.tmp 4] := ⟨_, Tryz.func208, rfl, rfl, rfl, by decide⟩
theorem fi209 : FnIs Tryz.prog 209 (bodyOf Tryz.f209) 6 [ResultVar.tmp 2] := ⟨_, Tryz.func209, rfl, rfl, rfl, by decide⟩
theorem fi210 : FnIs Tryz.prog 210 (bodyOf Tryz.f210) 19 [ResultVar.tmp 2, ResultVar.tmp 3] := ⟨_, Tryz.func210, rfl, rfl, rfl, by decide⟩
theorem fi211 : FnIs Tryz.prog 211 (bodyOf Tryz.f211) 187 [ResultVar.tmp 4] := ⟨_, Tryz.func211, rfl, rfl, rfl, by decide⟩
theorem fi212 : FnIs Tryz.prog 212 (bodyOf Tryz.f212) 28 [ResultVar.tmp 8, ResultVar.tmp 9] := ⟨_, Tryz.func212, rfl, rfl, rfl, by decide⟩
theorem fi213 : FnIs Tryz.prog 213 (bodyOf Tryz.f213) 117 [ResultVar.tmp 2, ResultVar.tmp 3] := ⟨_, Tryz.func213, rfl, rfl, rfl, by decide⟩
theorem fi214 : FnIs Tryz.prog 214 (bodyOf Tryz.f214) 8 [ResultVar.tmp 4] := ⟨_, Tryz.func214, rfl, rfl, rfl, by decide⟩
theorem fi215 : FnIs Tryz.prog 215 (bodyOf Tryz.f215) 17 [ResultVar.tmp 2] := ⟨_, Tryz.func215, rfl, rfl, rfl, by decide⟩
theorem fi216 : FnIs Tryz.prog 216 (bodyOf Tryz.f216) 6 [ResultVar.tmp 2] := ⟨_, Tryz.func216, rfl, rfl, rfl, by decide⟩
theorem fi218 : FnIs Tryz.prog 218 (bodyOf Tryz.f218) 8 [ResultVar.tmp 4] := ⟨_, Tryz.func218, rfl, rfl, rfl, by decide⟩
theorem fi241 : FnIs Tryz.prog 241 (bodyOf Tryz.f241) 6 [] := ⟨_, Tryz.func241, rfl, rfl, rfl, by decide⟩
theorem mixed : Tryz.prog.follows .mixedOrders = true := by kernel_rfl
end Go.Proofs.K
