/-
  slices.Sorted at a map's keys, and slices.AppendSeq at a slice's values, at this seat: the kit's contracts, laid by a program of mine (mkiter.py).
-/
import Derived.Test.YtnlbdfccijgapaaGreatVmIter
import Derived.Test.YtnlbdfccijgapaaGreatRows
import Derived.RangeFuncBox
import Derived.RangeFuncLeaves
import Derived.WalkKit
import Derived.OwnWalkIn
import Derived.TacticsInMore
import Derived.LoopNIn
import Derived.LoopIn
set_option maxRecDepth 100000
namespace Go.Proofs.YtnlbdfccijgapaaGreat
open Go.RowKit Go.Maps Go.Sort Go.Shelf Go.Vm

attribute [local go_sem] Oper.semAt_some

def renK : Go.Shelf.Ren where
  f := fun x => match x with
    | 7 => 132
    | 10 => 164
    | n => n
  t := fun x => match x with
    | 23 => 171
    | 26 => 3
    | 3 => 115
    | 28 => 128
    | 0 => 0
    | 27 => 127
    | 33 => 87
    | 4 => 4
    | n => n
  g := fun x => x

theorem renKL : SlLaysZI.n7 Tryz.prog renK where
  mixed := by kernel_rfl
  f7 := ⟨Tryz.f132.name, by kernel_rfl, by kernel_rfl⟩
  f10 := ⟨Tryz.f164.name, by kernel_rfl, by kernel_rfl⟩
  t0 := by kernel_rfl
  a0 := fun w => by kernel_rfl
  z0 := fun w => by kernel_rfl
  v0 := fun w => by kernel_rfl
  t4 := by kernel_rfl
  a4 := fun w => by kernel_rfl
  z4 := fun w => by kernel_rfl
  v4 := fun w => by kernel_rfl
  t23 := by kernel_rfl
  a23 := fun w => by kernel_rfl
  z23 := fun w => by kernel_rfl
  v23 := fun w => by kernel_rfl
  t26 := by kernel_rfl
  a26 := fun w => by kernel_rfl
  z26 := fun w => by kernel_rfl
  v26 := fun w => by kernel_rfl
  t27 := by kernel_rfl
  a27 := fun w => by kernel_rfl
  z27 := fun w => by kernel_rfl
  v27 := fun w => by kernel_rfl
  t28 := by kernel_rfl
  a28 := fun w => by kernel_rfl
  z28 := fun w => by kernel_rfl
  v28 := fun w => by kernel_rfl
  t33 := by kernel_rfl
  a33 := fun w => by kernel_rfl
  z33 := fun w => by kernel_rfl
  v33 := fun w => by kernel_rfl

def renS : Go.Shelf.Ren where
  f := fun x => match x with
    | 6 => 64
    | 8 => 127
    | 9 => 71
    | 11 => 162
    | 13 => 134
    | 12 => 133
    | 23 => 174
    | 24 => 175
    | 14 => 165
    | 15 => 166
    | 16 => 167
    | 17 => 168
    | 18 => 169
    | 19 => 170
    | 20 => 171
    | 21 => 172
    | 22 => 173
    | 25 => 209
    | 26 => 210
    | 27 => 211
    | 28 => 212
    | 29 => 213
    | 30 => 214
    | 31 => 239
    | n => n
  t := fun x => match x with
    | 26 => 3
    | 28 => 128
    | 24 => 44
    | 0 => 0
    | 3 => 3
    | 37 => 69
    | 48 => 241
    | 50 => 243
    | 4 => 4
    | 40 => 235
    | 39 => 234
    | 45 => 34
    | 5 => 5
    | 9 => 9
    | 51 => 272
    | 55 => 276
    | 57 => 304
    | 58 => 305
    | 33 => 87
    | n => n
  g := fun x => x

theorem renSL : SlLaysZI.n6 Tryz.prog renS where
  mixed := by kernel_rfl
  f6 := ⟨Tryz.f64.name, by kernel_rfl, by kernel_rfl⟩
  f8 := ⟨Tryz.f127.name, by kernel_rfl, by kernel_rfl⟩
  f11 := ⟨Tryz.f162.name, by kernel_rfl, by kernel_rfl⟩
  t0 := by kernel_rfl
  a0 := fun w => by kernel_rfl
  z0 := fun w => by kernel_rfl
  v0 := fun w => by kernel_rfl
  t24 := by kernel_rfl
  a24 := fun w => by kernel_rfl
  z24 := fun w => by kernel_rfl
  v24 := fun w => by kernel_rfl
  t26 := by kernel_rfl
  a26 := fun w => by kernel_rfl
  z26 := fun w => by kernel_rfl
  v26 := fun w => by kernel_rfl
  t28 := by kernel_rfl
  a28 := fun w => by kernel_rfl
  z28 := fun w => by kernel_rfl
  v28 := fun w => by kernel_rfl
  i26 := by kernel_rfl

def renM : Go.Shelf.Ren where
  f := fun x => match x with
    | 5 => 71
    | 8 => 134
    | 7 => 133
    | 19 => 174
    | 20 => 175
    | 10 => 165
    | 11 => 166
    | 12 => 167
    | 13 => 168
    | 14 => 169
    | 15 => 170
    | 16 => 171
    | 17 => 172
    | 18 => 173
    | 30 => 209
    | 31 => 210
    | 32 => 211
    | 33 => 212
    | 34 => 213
    | 35 => 214
    | 40 => 239
    | n => n
  t := fun x => match x with
    | 23 => 44
    | 25 => 3
    | 3 => 3
    | 32 => 69
    | 22 => 44
    | 0 => 0
    | 44 => 241
    | 46 => 243
    | 4 => 4
    | 36 => 235
    | 35 => 234
    | 41 => 34
    | 5 => 5
    | 9 => 9
    | 53 => 272
    | 57 => 276
    | 63 => 304
    | 64 => 305
    | n => n
  g := fun x => x

theorem renML : SlLaysM.n5 Tryz.prog renM where
  mixed := by kernel_rfl
  f5 := ⟨Tryz.f71.name, by kernel_rfl, by kernel_rfl⟩
  f7 := ⟨Tryz.f133.name, by kernel_rfl, by kernel_rfl⟩
  f8 := by kernel_rfl
  f10 := ⟨Tryz.f165.name, by kernel_rfl, by kernel_rfl⟩
  f11 := ⟨Tryz.f166.name, by kernel_rfl, by kernel_rfl⟩
  f12 := ⟨Tryz.f167.name, by kernel_rfl, by kernel_rfl⟩
  f13 := ⟨Tryz.f168.name, by kernel_rfl, by kernel_rfl⟩
  f14 := ⟨Tryz.f169.name, by kernel_rfl, by kernel_rfl⟩
  f15 := ⟨Tryz.f170.name, by kernel_rfl, by kernel_rfl⟩
  f16 := ⟨Tryz.f171.name, by kernel_rfl, by kernel_rfl⟩
  f17 := ⟨Tryz.f172.name, by kernel_rfl, by kernel_rfl⟩
  f18 := ⟨Tryz.f173.name, by kernel_rfl, by kernel_rfl⟩
  f19 := by kernel_rfl
  f20 := by kernel_rfl
  f30 := ⟨Tryz.f209.name, by kernel_rfl, by kernel_rfl⟩
  f31 := by kernel_rfl
  f32 := by kernel_rfl
  f33 := ⟨Tryz.f212.name, by kernel_rfl, by kernel_rfl⟩
  f34 := ⟨Tryz.f213.name, by kernel_rfl, by kernel_rfl⟩
  f35 := ⟨Tryz.f214.name, by kernel_rfl, by kernel_rfl⟩
  f40 := ⟨Tryz.f239.name, by kernel_rfl, by kernel_rfl⟩
  t0 := by kernel_rfl
  a0 := fun w => by kernel_rfl
  z0 := fun w => by kernel_rfl
  v0 := fun w => by kernel_rfl
  t3 := by kernel_rfl
  a3 := fun w => by kernel_rfl
  z3 := fun w => by kernel_rfl
  v3 := fun w => by kernel_rfl
  t4 := by kernel_rfl
  a4 := fun w => by kernel_rfl
  z4 := fun w => by kernel_rfl
  v4 := fun w => by kernel_rfl
  t5 := by kernel_rfl
  a5 := fun w => by kernel_rfl
  z5 := fun w => by kernel_rfl
  v5 := fun w => by kernel_rfl
  t9 := by kernel_rfl
  a9 := fun w => by kernel_rfl
  z9 := fun w => by kernel_rfl
  v9 := fun w => by kernel_rfl
  t22 := by kernel_rfl
  a22 := fun w => by kernel_rfl
  z22 := fun w => by kernel_rfl
  v22 := fun w => by kernel_rfl
  t23 := by kernel_rfl
  a23 := fun w => by kernel_rfl
  z23 := fun w => by kernel_rfl
  v23 := fun w => by kernel_rfl
  t25 := by kernel_rfl
  a25 := fun w => by kernel_rfl
  z25 := fun w => by kernel_rfl
  v25 := fun w => by kernel_rfl
  t32 := by kernel_rfl
  a32 := fun w => by kernel_rfl
  z32 := fun w => by kernel_rfl
  v32 := fun w => by kernel_rfl
  t35 := by kernel_rfl
  a35 := fun w => by kernel_rfl
  z35 := fun w => by kernel_rfl
  v35 := fun w => by kernel_rfl
  t36 := by kernel_rfl
  a36 := fun w => by kernel_rfl
  z36 := fun w => by kernel_rfl
  v36 := fun w => by kernel_rfl
  t41 := by kernel_rfl
  a41 := fun w => by kernel_rfl
  z41 := fun w => by kernel_rfl
  v41 := fun w => by kernel_rfl
  t44 := by kernel_rfl
  a44 := fun w => by kernel_rfl
  z44 := fun w => by kernel_rfl
  v44 := fun w => by kernel_rfl
  t46 := by kernel_rfl
  a46 := fun w => by kernel_rfl
  z46 := fun w => by kernel_rfl
  v46 := fun w => by kernel_rfl
  t53 := by kernel_rfl
  a53 := fun w => by kernel_rfl
  z53 := fun w => by kernel_rfl
  v53 := fun w => by kernel_rfl
  t57 := by kernel_rfl
  a57 := fun w => by kernel_rfl
  z57 := fun w => by kernel_rfl
  v57 := fun w => by kernel_rfl
  t63 := by kernel_rfl
  a63 := fun w => by kernel_rfl
  z63 := fun w => by kernel_rfl
  v63 := fun w => by kernel_rfl
  t64 := by kernel_rfl
  a64 := fun w => by kernel_rfl
  z64 := fun w => by kernel_rfl
  v64 := fun w => by kernel_rfl

theorem sortsIn (m : Nat) : AnyZI.SortsIn Tryz.prog renS Fence.wide m :=
  ⟨fun blk off cap ss W hH hblk hsz => callsIn_wide.2 (AnyM.slices_Sort_int renML blk off cap ss W hH hblk hsz),
   fun p cap W => callsIn_wide.2 (AnyM.slices_Sort_int_none renML p cap W)⟩

theorem keysSorted : KeysSorted Tryz.prog 64 164 :=
  keysSorted_of (ρ := renK) (σ := renS) renKL renSL sortsIn (enters_of Tryz.func71 (by kernel_rfl) rfl) (enters_of Tryz.func164 (by kernel_rfl) rfl) (by kernel_rfl)

/-! ### slices.Values's closure -/

def upto (f : Nat → Int) (k : Nat) : List Int := (List.range k).map f
theorem upto_succ (f : Nat → Int) (k : Nat) : upto f (k + 1) = upto f k ++ [f k] := by simp [upto, List.range_succ]
theorem upto_length (f : Nat → Int) (k : Nat) : (upto f k).length = k := by simp [upto]
theorem upto_all (zs : List Int) : upto (fun j => zs[j]?.getD 0) zs.length = zs := by
  apply List.ext_getElem
  · simp [upto]
  · intro i h1 h2
    simp [upto, h2]

set_option maxHeartbeats 2000000 in
theorem values_in (n : Nat) (hn : 1 ≤ n) (l Bs n₀ b off len cap : Nat) (zs : List Int) (hreach : len * 8 ≤ 140737488351232) (hb : b < n₀) (J : List Int → World → Prop)
    (hY : ∀ pre x W, J pre W → pre.length < len → YieldAt Fence.wide (n - 1) Tryz.prog l #[.int .i64 x] W fun e W' => e = .returned (.bool true) ∧ J (pre ++ [x]) W' ∧ Below n₀ W W')
    (W : World) (hBs : W.cell? ⟨Bs, 0, none⟩ = some (.slice (some ⟨b, off, none⟩) len cap)) (hc : ∀ j, j < len → W.cell? ⟨b, off + j, none⟩ = some (.int .i64 (zs[j]?.getD 0))) (h0 : J [] W) :
    CallsIn Fence.wide n Tryz.prog 128 #[.func (.yield l) #[] #[], .pointer (some ⟨Bs, 0, none⟩)] W fun e W' => (∃ v, e = .returned v) ∧ J (upto (fun j => zs[j]?.getD 0) len) W' := by
  have hro : Fence.wide.round = none := rfl
  refine callsIn_of_wp Tryz.func128 rfl trivial ?_ hro
  simp only [Tryz.ntmps128, List.size_toArray, List.length_cons, List.length_nil, Nat.reduceAdd, Nat.reduceSub, Array.replicate_succ, Array.replicate_zero, List.push_toArray, List.append_toArray, List.nil_append, List.cons_append]
  gi_wp2
  gi_loopw [7] (fun i wr => ∃ k : Nat, k ≤ len ∧ i = .int .i64 k ∧ J (upto (fun j => zs[j]?.getD 0) k) wr ∧ Below n₀ W wr)
    (fun i _ => len - (numKey i).toNat)
  case atStart => exact ⟨0, Nat.zero_le _, rfl, h0, Below.refl _ _⟩
  case round =>
    obtain ⟨k, hk, rfl, hJs, hnx⟩ := hrel
    have hcx : k < len → wr.cell? ⟨b, off + k, none⟩ = some (.int .i64 (zs[k]?.getD 0)) := fun h => (hnx.cell (p := ⟨b, off + k, none⟩) hb).trans (hc k h)
    by_cases hlt : k < len
    · obtain ⟨fn, tmps, assign, body, hy, hR⟩ := hY _ (zs[k]?.getD 0) wr hJs (by rw [upto_length]; exact hlt)
      have hcx' := hcx hlt
      gi_wp2
      refine hR.mono ?_
      rintro e W3 ⟨rfl, hJ3, hk3⟩
      gi_wp2
      go_roundw
      case rel => exact ⟨k + 1, by omega, by simp, by rw [upto_succ]; exact hJ3, hnx.trans hk3⟩
      case measure => simp [numKey]; omega
    · obtain rfl : k = len := by omega
      gi_wp2
      go_end0
      exact ⟨⟨_, rfl⟩, hJs⟩

set_option maxHeartbeats 1000000 in
theorem values_nil_in (n : Nat) (l Bs : Nat) (a : Option Addr) (cc : Nat) (J : List Int → World → Prop) (W : World) (hBs : W.cell? ⟨Bs, 0, none⟩ = some (.slice a 0 cc)) (h0 : J [] W) :
    CallsIn Fence.wide n Tryz.prog 128 #[.func (.yield l) #[] #[], .pointer (some ⟨Bs, 0, none⟩)] W fun e W' => (∃ v, e = .returned v) ∧ J [] W' := by
  have hro : Fence.wide.round = none := rfl
  refine callsIn_of_wp Tryz.func128 rfl trivial ?_ hro
  simp only [Tryz.ntmps128, List.size_toArray, List.length_cons, List.length_nil, Nat.reduceAdd, Nat.reduceSub, Array.replicate_succ, Array.replicate_zero, List.push_toArray, List.append_toArray, List.nil_append, List.cons_append]
  gi_wp2
  gi_loopw [7] (fun i wr => i = .int .i64 0 ∧ J [] wr) (fun _ _ => 0)
  case atStart => exact ⟨rfl, h0⟩
  case round =>
    obtain ⟨rfl, hJs⟩ := hrel
    gi_wp2
    go_end0
    exact ⟨⟨_, rfl⟩, hJs⟩

theorem valuesApp : ValuesApp Tryz.prog 162 128 where
  enters := by kernel_rfl
  some_ w Bm b off len cap zs hc hz hl hcs hBm hb := by
    refine (callsIn_wide (n := 4)).1 ?_
    have hseq : SeqGivesB 3 Tryz.prog 128 #[.pointer (some ⟨Bm, 0, none⟩)] (fun xs => xs = zs) len w := by
      intro l J W hW hJb hY hJ0
      have hc' := (hW.cell (p := ⟨Bm, 0, none⟩) hBm).trans hc
      refine (values_in 3 (by omega) l Bm w.heap.size b off len cap zs (by omega) hb J (fun pre x W1 hJ1 hlen => ?_) W hc' (fun j hj => (hW.cell (p := ⟨b, off + j, none⟩) hb).trans (hcs j hj)) hJ0).mono ?_
      · obtain ⟨fn, tmps, assign, body, hy, hR⟩ := hY pre x W1 hJ1 hlen
        refine ⟨fn, tmps, assign, body, hy, hR.mono ?_⟩
        rintro e W' ⟨rfl, k1, k2⟩
        exact ⟨rfl, k1, below_pair (hJb _ _ hJ1) (hJb _ _ k1) k2.size⟩
      · rintro e W' ⟨he, hj⟩
        refine ⟨he, _, rfl, ?_⟩
        rw [← hz, upto_all] at hj
        exact hj
    have hml : (1000000 : Nat) ≤ maxLen := by decide
    refine (appendB_in (ρ := renS) { renSL with } 4 (by omega) 128 _ (enters_of Tryz.func128 (by kernel_rfl) rfl) _ len (Nat.le_trans hl hml) (by omega) w hseq).mono ?_
    rintro e w' ⟨v, ss, rfl, rfl, hrow, hnil, hb'⟩
    exact ⟨v, _, rfl, hrow, hnil, hb'⟩
  none_ w Bm a cc hc hBm := by
    refine (callsIn_wide (n := 4)).1 ?_
    have hseq : SeqGivesB 3 Tryz.prog 128 #[.pointer (some ⟨Bm, 0, none⟩)] (fun xs => xs = []) 0 w := by
      intro l J W hW hJb hY hJ0
      have hc' := (hW.cell (p := ⟨Bm, 0, none⟩) hBm).trans hc
      exact (values_nil_in 3 l Bm a cc J W hc' hJ0).mono fun e W' ⟨he, hj⟩ => ⟨he, [], rfl, hj⟩
    refine (appendB_in (ρ := renS) { renSL with } 4 (by omega) 128 _ (enters_of Tryz.func128 (by kernel_rfl) rfl) _ 0 (Nat.zero_le _) (by omega) w hseq).mono ?_
    rintro e w' ⟨v, ss, rfl, rfl, hrow, hnil, hb'⟩
    exact ⟨by rw [hnil.2 rfl], hb'⟩

end Go.Proofs.YtnlbdfccijgapaaGreat
