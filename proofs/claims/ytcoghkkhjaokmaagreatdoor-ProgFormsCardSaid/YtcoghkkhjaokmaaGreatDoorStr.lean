/-
  What strings and strconv do at this seat: the kit's contracts, laid (written by a program of mine, mkstr.py).
-/
import Derived.Test.YtcoghkkhjaokmaaGreatDoorRows
import Derived.Test.YtcoghkkhjaokmaaGreatDoorVmStr
import Derived.Shelf.LaysM
import Derived.Shelf.LaysC
import Derived.Shelf.Strings.Prefix
import Derived.Shelf.Small.Wraps
import Derived.Shelf.Small.Strs
import Derived.Shelf.Strings.Cut
import Derived.Shelf.Strings.SplitShaped
import Derived.Shelf.Strings.OnBuilder
import Derived.Shelf.Strconv.Itoa4
import Derived.Shelf.Strconv.ParseIntPublic10
import Derived.Shelf.Strconv.AtoiAll
set_option maxRecDepth 100000
namespace Go.Proofs.YtcoghkkhjaokmaaGreatDoor
open Go.RowKit Go.Shelf Go.Vm Go.Lib
def ren : Go.Shelf.Ren := ⟨fun x => match x with | 101 => 38 | 102 => 164 | 104 => 58 | 129 => 156 | 137 => 76 | 138 => 143 | 143 => 53 | 145 => 57 | 146 => 56 | 156 => 61 | 165 => 104 | 166 => 105 | 169 => 106 | 171 => 154 | 173 => 42 | 174 => 39 | 195 => 165 | 197 => 166 | 205 => 153 | 206 => 110 | 207 => 144 | 208 => 77 | 209 => 175 | 211 => 103 | 217 => 109 | 218 => 167 | 219 => 99 | 220 => 102 | 221 => 101 | 224 => 130 | 225 => 129 | 240 => 145 | 241 => 146 | 243 => 171 | 245 => 79 | 246 => 81 | 247 => 78 | 260 => 176 | 266 => 149 | 267 => 131 | 268 => 142 | 276 => 168 | 277 => 169 | 279 => 112 | 280 => 113 | 281 => 114 | 282 => 115 | 283 => 116 | 284 => 117 | 285 => 118 | 286 => 119 | 287 => 111 | 314 => 163 | 316 => 152 | 317 => 155 | 318 => 157 | 319 => 158 | 320 => 159 | 321 => 150 | 322 => 151 | 337 => 172 | 338 => 173 | n => n, fun x => match x with | 0 => 0 | 2 => 2 | 3 => 3 | 4 => 4 | 5 => 5 | 9 => 9 | 20 => 20 | 21 => 21 | 24 => 102 | 31 => 44 | 37 => 23 | 46 => 39 | 51 => 183 | 53 => 119 | 59 => 100 | 70 => 129 | 72 => 131 | 75 => 77 | 76 => 133 | 80 => 135 | 85 => 78 | 105 => 190 | 119 => 203 | 127 => 176 | 138 => 205 | 139 => 206 | 143 => 195 | 145 => 197 | 146 => 187 | 164 => 192 | 167 => 137 | 168 => 140 | 171 => 144 | 173 => 147 | 175 => 138 | 210 => 179 | 212 => 182 | 213 => 184 | 232 => 201 | 233 => 202 | n => n, fun x => match x with | 1 => 0 | 3 => 6 | 4 => 7 | 15 => 1 | 16 => 2 | 17 => 3 | 18 => 4 | 19 => 5 | n => n⟩
theorem L145 : Lays.n145 Tryz.prog ren := by constructor <;> first | kernel_rfl | (intro w; kernel_rfl) | decide | (constructor <;> first | kernel_rfl | (intro w; kernel_rfl) | decide | (constructor <;> first | kernel_rfl | (intro w; kernel_rfl) | decide | (constructor <;> first | kernel_rfl | (intro w; kernel_rfl) | decide)))
theorem L143 : Lays.n143 Tryz.prog ren := by constructor <;> first | kernel_rfl | (intro w; kernel_rfl) | decide | (constructor <;> first | kernel_rfl | (intro w; kernel_rfl) | decide | (constructor <;> first | kernel_rfl | (intro w; kernel_rfl) | decide | (constructor <;> first | kernel_rfl | (intro w; kernel_rfl) | decide)))
theorem L146 : Lays.n146 Tryz.prog ren := by constructor <;> first | kernel_rfl | (intro w; kernel_rfl) | decide | (constructor <;> first | kernel_rfl | (intro w; kernel_rfl) | decide | (constructor <;> first | kernel_rfl | (intro w; kernel_rfl) | decide | (constructor <;> first | kernel_rfl | (intro w; kernel_rfl) | decide)))
theorem L104 : Lays.n104 Tryz.prog ren := by constructor <;> first | kernel_rfl | (intro w; kernel_rfl) | decide | (constructor <;> first | kernel_rfl | (intro w; kernel_rfl) | decide | (constructor <;> first | kernel_rfl | (intro w; kernel_rfl) | decide | (constructor <;> first | kernel_rfl | (intro w; kernel_rfl) | decide)))
theorem L101 : Lays.n101 Tryz.prog ren := by constructor <;> first | kernel_rfl | (intro w; kernel_rfl) | decide | (constructor <;> first | kernel_rfl | (intro w; kernel_rfl) | decide | (constructor <;> first | kernel_rfl | (intro w; kernel_rfl) | decide | (constructor <;> first | kernel_rfl | (intro w; kernel_rfl) | decide)))
theorem L102 : Lays.n102 Tryz.prog ren := by constructor <;> first | kernel_rfl | (intro w; kernel_rfl) | decide | (constructor <;> first | kernel_rfl | (intro w; kernel_rfl) | decide | (constructor <;> first | kernel_rfl | (intro w; kernel_rfl) | decide | (constructor <;> first | kernel_rfl | (intro w; kernel_rfl) | decide)))
theorem L137 : Lays.n137 Tryz.prog ren := by constructor <;> first | kernel_rfl | (intro w; kernel_rfl) | decide | (constructor <;> first | kernel_rfl | (intro w; kernel_rfl) | decide | (constructor <;> first | kernel_rfl | (intro w; kernel_rfl) | decide | (constructor <;> first | kernel_rfl | (intro w; kernel_rfl) | decide)))
theorem L156 : Lays.n156 Tryz.prog ren := by constructor <;> first | kernel_rfl | (intro w; kernel_rfl) | decide | (constructor <;> first | kernel_rfl | (intro w; kernel_rfl) | decide | (constructor <;> first | kernel_rfl | (intro w; kernel_rfl) | decide | (constructor <;> first | kernel_rfl | (intro w; kernel_rfl) | decide)))
theorem X156 : Builder.Extra Tryz.prog ren := by constructor <;> first | kernel_rfl | (intro w; kernel_rfl) | decide | (constructor <;> first | kernel_rfl | (intro w; kernel_rfl) | decide | (constructor <;> first | kernel_rfl | (intro w; kernel_rfl) | decide | (constructor <;> first | kernel_rfl | (intro w; kernel_rfl) | decide)))
theorem L171 : LaysM.n171 Tryz.prog ren := by constructor <;> first | kernel_rfl | (intro w; kernel_rfl) | decide | (constructor <;> first | kernel_rfl | (intro w; kernel_rfl) | decide | (constructor <;> first | kernel_rfl | (intro w; kernel_rfl) | decide | (constructor <;> first | kernel_rfl | (intro w; kernel_rfl) | decide)))
theorem L173 : LaysM.n173 Tryz.prog ren := by constructor <;> first | kernel_rfl | (intro w; kernel_rfl) | decide | (constructor <;> first | kernel_rfl | (intro w; kernel_rfl) | decide | (constructor <;> first | kernel_rfl | (intro w; kernel_rfl) | decide | (constructor <;> first | kernel_rfl | (intro w; kernel_rfl) | decide)))
theorem L174 : LaysC.n174 Tryz.prog ren := by constructor <;> first | kernel_rfl | (intro w; kernel_rfl) | decide | (constructor <;> first | kernel_rfl | (intro w; kernel_rfl) | decide | (constructor <;> first | kernel_rfl | (intro w; kernel_rfl) | decide | (constructor <;> first | kernel_rfl | (intro w; kernel_rfl) | decide)))
def sg : SG := ⟨0, 1, 2, 3, 140⟩
theorem sg_ok : sg.ok Tryz.prog := ⟨of_decide_eq_true (by kernel_rfl), of_decide_eq_true (by kernel_rfl), of_decide_eq_true (by kernel_rfl), of_decide_eq_true (by kernel_rfl)⟩
theorem tab_is (w : World) (h : PowIs w sg.pow) : Lib.TabIs Tryz.prog w "internal/strconv.uint64pow10" .u64 Lib.pow10Tab := by
  obtain ⟨e, fz, h⟩ := h
  have hg : Tryz.prog.globalNamed "internal/strconv.uint64pow10" = some sg.pow := by kernel_rfl
  simp only [Lib.TabIs, World.var?, hg, h, Option.bind_some]
theorem is_cut : IsStr Tryz.prog sg (57, .cut) := ⟨by kernel_rfl, fun s sep m w h1 h2 => Any.strings_Cut L145 s sep m w h1 h2⟩
theorem is_idx : IsStr Tryz.prog sg (53, .idx) := ⟨by kernel_rfl, fun s sep m w h1 h2 => Any.strings_Index L143 s sep m w h1 h2⟩
theorem is_split : IsStr Tryz.prog sg (56, .split) := ⟨by kernel_rfl, ⟨_, fun s sep m w h1 h2 h3 => Any.strings_Split L146 (by kernel_rfl) s sep m w h1 h2 h3⟩⟩
theorem is_cutS : IsStr Tryz.prog sg (58, .cutS) := ⟨by kernel_rfl, fun s p w h => Any.strings_CutSuffix L104 s p w h⟩
theorem is_trimP : IsStr Tryz.prog sg (38, .trimP) := ⟨by kernel_rfl, fun s p w => Any.strings_TrimPrefix L101 s p w⟩
theorem is_trimS : IsStr Tryz.prog sg (164, .trimS) := ⟨by kernel_rfl, fun s p w h => Any.strings_TrimSuffix L102 s p w h⟩
theorem is_idxB : IsStr Tryz.prog sg (76, .idxB) := ⟨by kernel_rfl, fun s c w => Any.strings_IndexByte L137 s c w⟩
theorem is_join : IsStr Tryz.prog sg (61, .join) := ⟨by kernel_rfl, ⟨fun a c sep w => Any.strings_Join_none L156 X156 a c sep w, fun bk o c xs sep w h1 h2 h3 h4 h5 => Any.strings_Join L156 X156 bk o c xs sep w h1 h2 h3 h4 h5⟩⟩
theorem is_itoa : IsStr Tryz.prog sg (154, .itoa) := ⟨by kernel_rfl, fun n w h0 h1 h2 => Any.strconv_Itoa L171 n h0 h1 w (tab_is w h2)⟩
theorem is_fmt : IsStr Tryz.prog sg (42, .fmt) := ⟨by kernel_rfl, fun n w h0 h1 h2 => Any.strconv_FormatInt_10 L173 n h0 h1 w (tab_is w h2)⟩
theorem is_parse : IsStr Tryz.prog sg (39, .parse) := ⟨by kernel_rfl, ⟨fun s v w h1 h2 => (Any.strconv_ParseInt_10_at64_ok L174 s (by omega) v h2 w).mono fun e w' ⟨he, hb⟩ => ⟨he, by rcases hb with rfl | ⟨t, rfl⟩ <;> first | exact Below.refl _ _ | exact Lib.bytesWorld_below _ _ _⟩,
    fun s te pe w h1 h2 h3 => (Any.strconv_ParseInt_10_at64_syntax L174 s h1 (by revert h2; cases Lib.parseIntB 64 s.data.toList <;> intro h2 <;> first | rfl | cases h2) _ w h3 (Or.inr ⟨_, _, rfl⟩)).mono fun e w' ⟨N, he, h4, _, h5⟩ => ⟨N, he, h4, h5⟩,
    fun s te pe w h1 h2 h3 => (Any.strconv_ParseInt_10_at64_range L174 s h1 h2 _ w h3 (Or.inr ⟨_, _, rfl⟩)).mono fun e w' ⟨N, he, h4, _, h5⟩ => ⟨N, he, h4, h5⟩⟩⟩
def strs : List (Nat × Sk) := [(57, .cut), (53, .idx), (56, .split), (58, .cutS), (38, .trimP), (164, .trimS), (76, .idxB), (61, .join), (154, .itoa), (42, .fmt), (39, .parse)]
theorem strs_ok : ∀ x, x ∈ strs → IsStr Tryz.prog sg x := by
  intro x hx
  simp only [strs, List.mem_cons, List.not_mem_nil, or_false] at hx
  rcases hx with rfl | rfl | rfl | rfl | rfl | rfl | rfl | rfl | rfl | rfl | rfl
  · exact is_cut
  · exact is_idx
  · exact is_split
  · exact is_cutS
  · exact is_trimP
  · exact is_trimS
  · exact is_idxB
  · exact is_join
  · exact is_itoa
  · exact is_fmt
  · exact is_parse
end Go.Proofs.YtcoghkkhjaokmaaGreatDoor
