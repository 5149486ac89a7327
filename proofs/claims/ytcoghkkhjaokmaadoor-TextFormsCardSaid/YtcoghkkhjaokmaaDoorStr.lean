/-
  What strings and strconv do at this seat: the kit's contracts, laid (written by a program of mine, mkstr.py).
-/
import Derived.Test.YtcoghkkhjaokmaaDoorRows
import Derived.Test.YtcoghkkhjaokmaaDoorVmStr
import Derived.Shelf.LaysM
import Derived.Shelf.LaysC
import Derived.Shelf.Strings.Prefix
import Derived.Shelf.Small.Wraps
import Derived.Shelf.Small.Strs
import Derived.Shelf.Strings.Cut
import Derived.Shelf.Strings.SplitShaped
import Derived.Shelf.Strings.OnBuilder
import Derived.Shelf.Strconv.Itoa4
import Derived.Shelf.Strconv.ParseIntPublic10
import Derived.Shelf.Strconv.AtoiAll
set_option maxRecDepth 100000
namespace Go.Proofs.YtcoghkkhjaokmaaDoor
open Go.RowKit Go.Shelf Go.Vm Go.Lib
def ren : Go.Shelf.Ren := ⟨fun x => match x with | 101 => 32 | 104 => 39 | 129 => 85 | 137 => 47 | 138 => 93 | 143 => 94 | 145 => 36 | 146 => 53 | 156 => 28 | 165 => 42 | 166 => 43 | 169 => 44 | 171 => 27 | 173 => 35 | 174 => 33 | 195 => 99 | 197 => 100 | 205 => 83 | 206 => 61 | 207 => 75 | 208 => 48 | 211 => 55 | 217 => 60 | 218 => 101 | 219 => 71 | 220 => 52 | 221 => 72 | 224 => 90 | 225 => 89 | 240 => 56 | 241 => 57 | 243 => 41 | 245 => 50 | 246 => 51 | 247 => 49 | 260 => 102 | 266 => 79 | 267 => 91 | 268 => 92 | 276 => 76 | 277 => 77 | 279 => 63 | 280 => 64 | 281 => 65 | 282 => 66 | 283 => 67 | 284 => 68 | 285 => 69 | 286 => 70 | 287 => 62 | 314 => 98 | 316 => 82 | 317 => 84 | 318 => 86 | 319 => 87 | 320 => 88 | 321 => 80 | 322 => 81 | 337 => 96 | 338 => 97 | n => n, fun x => match x with | 0 => 0 | 2 => 2 | 3 => 3 | 4 => 4 | 5 => 5 | 9 => 9 | 20 => 20 | 21 => 21 | 24 => 84 | 31 => 61 | 37 => 28 | 46 => 26 | 51 => 130 | 53 => 104 | 59 => 81 | 70 => 87 | 72 => 89 | 75 => 76 | 76 => 91 | 80 => 93 | 85 => 77 | 105 => 142 | 119 => 146 | 127 => 100 | 138 => 148 | 139 => 149 | 143 => 135 | 145 => 137 | 146 => 139 | 164 => 119 | 167 => 103 | 168 => 107 | 171 => 110 | 173 => 113 | 175 => 105 | 210 => 125 | 212 => 129 | 213 => 131 | 232 => 144 | 233 => 145 | n => n, fun x => match x with | 1 => 3 | 3 => 6 | 4 => 7 | 15 => 0 | 16 => 1 | 17 => 2 | 18 => 4 | 19 => 5 | n => n⟩
theorem L145 : Lays.n145 Tryd.prog ren := by constructor <;> first | kernel_rfl | (intro w; kernel_rfl) | decide | (constructor <;> first | kernel_rfl | (intro w; kernel_rfl) | decide | (constructor <;> first | kernel_rfl | (intro w; kernel_rfl) | decide | (constructor <;> first | kernel_rfl | (intro w; kernel_rfl) | decide)))
theorem L143 : Lays.n143 Tryd.prog ren := by constructor <;> first | kernel_rfl | (intro w; kernel_rfl) | decide | (constructor <;> first | kernel_rfl | (intro w; kernel_rfl) | decide | (constructor <;> first | kernel_rfl | (intro w; kernel_rfl) | decide | (constructor <;> first | kernel_rfl | (intro w; kernel_rfl) | decide)))
theorem L146 : Lays.n146 Tryd.prog ren := by constructor <;> first | kernel_rfl | (intro w; kernel_rfl) | decide | (constructor <;> first | kernel_rfl | (intro w; kernel_rfl) | decide | (constructor <;> first | kernel_rfl | (intro w; kernel_rfl) | decide | (constructor <;> first | kernel_rfl | (intro w; kernel_rfl) | decide)))
theorem L104 : Lays.n104 Tryd.prog ren := by constructor <;> first | kernel_rfl | (intro w; kernel_rfl) | decide | (constructor <;> first | kernel_rfl | (intro w; kernel_rfl) | decide | (constructor <;> first | kernel_rfl | (intro w; kernel_rfl) | decide | (constructor <;> first | kernel_rfl | (intro w; kernel_rfl) | decide)))
theorem L101 : Lays.n101 Tryd.prog ren := by constructor <;> first | kernel_rfl | (intro w; kernel_rfl) | decide | (constructor <;> first | kernel_rfl | (intro w; kernel_rfl) | decide | (constructor <;> first | kernel_rfl | (intro w; kernel_rfl) | decide | (constructor <;> first | kernel_rfl | (intro w; kernel_rfl) | decide)))
theorem L137 : Lays.n137 Tryd.prog ren := by constructor <;> first | kernel_rfl | (intro w; kernel_rfl) | decide | (constructor <;> first | kernel_rfl | (intro w; kernel_rfl) | decide | (constructor <;> first | kernel_rfl | (intro w; kernel_rfl) | decide | (constructor <;> first | kernel_rfl | (intro w; kernel_rfl) | decide)))
theorem L156 : Lays.n156 Tryd.prog ren := by constructor <;> first | kernel_rfl | (intro w; kernel_rfl) | decide | (constructor <;> first | kernel_rfl | (intro w; kernel_rfl) | decide | (constructor <;> first | kernel_rfl | (intro w; kernel_rfl) | decide | (constructor <;> first | kernel_rfl | (intro w; kernel_rfl) | decide)))
theorem X156 : Builder.Extra Tryd.prog ren := by constructor <;> first | kernel_rfl | (intro w; kernel_rfl) | decide | (constructor <;> first | kernel_rfl | (intro w; kernel_rfl) | decide | (constructor <;> first | kernel_rfl | (intro w; kernel_rfl) | decide | (constructor <;> first | kernel_rfl | (intro w; kernel_rfl) | decide)))
theorem L171 : LaysM.n171 Tryd.prog ren := by constructor <;> first | kernel_rfl | (intro w; kernel_rfl) | decide | (constructor <;> first | kernel_rfl | (intro w; kernel_rfl) | decide | (constructor <;> first | kernel_rfl | (intro w; kernel_rfl) | decide | (constructor <;> first | kernel_rfl | (intro w; kernel_rfl) | decide)))
theorem L173 : LaysM.n173 Tryd.prog ren := by constructor <;> first | kernel_rfl | (intro w; kernel_rfl) | decide | (constructor <;> first | kernel_rfl | (intro w; kernel_rfl) | decide | (constructor <;> first | kernel_rfl | (intro w; kernel_rfl) | decide | (constructor <;> first | kernel_rfl | (intro w; kernel_rfl) | decide)))
theorem L174 : LaysC.n174 Tryd.prog ren := by constructor <;> first | kernel_rfl | (intro w; kernel_rfl) | decide | (constructor <;> first | kernel_rfl | (intro w; kernel_rfl) | decide | (constructor <;> first | kernel_rfl | (intro w; kernel_rfl) | decide | (constructor <;> first | kernel_rfl | (intro w; kernel_rfl) | decide)))
def sg : SG := ⟨3, 0, 1, 2, 107⟩
theorem sg_ok : sg.ok Tryd.prog := ⟨of_decide_eq_true (by kernel_rfl), of_decide_eq_true (by kernel_rfl), of_decide_eq_true (by kernel_rfl), of_decide_eq_true (by kernel_rfl)⟩
theorem tab_is (w : World) (h : PowIs w sg.pow) : Lib.TabIs Tryd.prog w "internal/strconv.uint64pow10" .u64 Lib.pow10Tab := by
  obtain ⟨e, fz, h⟩ := h
  have hg : Tryd.prog.globalNamed "internal/strconv.uint64pow10" = some sg.pow := by kernel_rfl
  simp only [Lib.TabIs, World.var?, hg, h, Option.bind_some]
theorem is_cut : IsStr Tryd.prog sg (36, .cut) := ⟨by kernel_rfl, fun s sep m w h1 h2 => Any.strings_Cut L145 s sep m w h1 h2⟩
theorem is_idx : IsStr Tryd.prog sg (94, .idx) := ⟨by kernel_rfl, fun s sep m w h1 h2 => Any.strings_Index L143 s sep m w h1 h2⟩
theorem is_split : IsStr Tryd.prog sg (53, .split) := ⟨by kernel_rfl, ⟨_, fun s sep m w h1 h2 h3 => Any.strings_Split L146 (by kernel_rfl) s sep m w h1 h2 h3⟩⟩
theorem is_cutS : IsStr Tryd.prog sg (39, .cutS) := ⟨by kernel_rfl, fun s p w h => Any.strings_CutSuffix L104 s p w h⟩
theorem is_trimP : IsStr Tryd.prog sg (32, .trimP) := ⟨by kernel_rfl, fun s p w => Any.strings_TrimPrefix L101 s p w⟩
theorem is_idxB : IsStr Tryd.prog sg (47, .idxB) := ⟨by kernel_rfl, fun s c w => Any.strings_IndexByte L137 s c w⟩
theorem is_join : IsStr Tryd.prog sg (28, .join) := ⟨by kernel_rfl, ⟨fun a c sep w => Any.strings_Join_none L156 X156 a c sep w, fun bk o c xs sep w h1 h2 h3 h4 h5 => Any.strings_Join L156 X156 bk o c xs sep w h1 h2 h3 h4 h5⟩⟩
theorem is_itoa : IsStr Tryd.prog sg (27, .itoa) := ⟨by kernel_rfl, fun n w h0 h1 h2 => Any.strconv_Itoa L171 n h0 h1 w (tab_is w h2)⟩
theorem is_fmt : IsStr Tryd.prog sg (35, .fmt) := ⟨by kernel_rfl, fun n w h0 h1 h2 => Any.strconv_FormatInt_10 L173 n h0 h1 w (tab_is w h2)⟩
theorem is_parse : IsStr Tryd.prog sg (33, .parse) := ⟨by kernel_rfl, ⟨fun s v w h1 h2 => (Any.strconv_ParseInt_10_at64_ok L174 s (by omega) v h2 w).mono fun e w' ⟨he, hb⟩ => ⟨he, by rcases hb with rfl | ⟨t, rfl⟩ <;> first | exact Below.refl _ _ | exact Lib.bytesWorld_below _ _ _⟩,
    fun s te pe w h1 h2 h3 => (Any.strconv_ParseInt_10_at64_syntax L174 s h1 (by revert h2; cases Lib.parseIntB 64 s.data.toList <;> intro h2 <;> first | rfl | cases h2) _ w h3 (Or.inr ⟨_, _, rfl⟩)).mono fun e w' ⟨N, he, h4, _, h5⟩ => ⟨N, he, h4, h5⟩,
    fun s te pe w h1 h2 h3 => (Any.strconv_ParseInt_10_at64_range L174 s h1 h2 _ w h3 (Or.inr ⟨_, _, rfl⟩)).mono fun e w' ⟨N, he, h4, _, h5⟩ => ⟨N, he, h4, h5⟩⟩⟩
def strs : List (Nat × Sk) := [(36, .cut), (94, .idx), (53, .split), (39, .cutS), (32, .trimP), (47, .idxB), (28, .join), (27, .itoa), (35, .fmt), (33, .parse)]
theorem strs_ok : ∀ x, x ∈ strs → IsStr Tryd.prog sg x := by
  intro x hx
  simp only [strs, List.mem_cons, List.not_mem_nil, or_false] at hx
  rcases hx with rfl | rfl | rfl | rfl | rfl | rfl | rfl | rfl | rfl | rfl
  · exact is_cut
  · exact is_idx
  · exact is_split
  · exact is_cutS
  · exact is_trimP
  · exact is_idxB
  · exact is_join
  · exact is_itoa
  · exact is_fmt
  · exact is_parse
end Go.Proofs.YtcoghkkhjaokmaaDoor
