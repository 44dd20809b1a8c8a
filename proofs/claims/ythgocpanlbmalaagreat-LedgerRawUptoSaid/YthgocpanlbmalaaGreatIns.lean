import Derived.Test.YthgocpanlbmalaaGreatPa2
import Derived.Test.YthgocpanlbmalaaGreatProg
import Derived.KernelRfl
import Derived.WalkKit
import Derived.Tactics
import Derived.Shelf.RegionOpenPlain
import Derived.Deep.RegionLaw
import Derived.Deep.LoopGhost
import Derived.Lib.Walk
import Derived.Lib.SliceRun
import Derived.Lib.AppendZerosOnto
import Derived.Lib.Overlaps
set_option linter.unusedVariables false
set_option linter.unusedSimpArgs false
namespace Go.Bm
open Go Go.Proofs Go.Lib
theorem step_append_runI {P : Program} {ops : Array Oper} {o : Oper} {a : Act} {w : World} {K : Act → World → Prop} {Q : Exit → Act → World → Prop} {E : Prop}
  (hg : o.guard = none) (d x : Operand) (dT sT : TypeId) (hop : o.op = Op.call { callee := Callee.builtin Builtin.append, args := #[d, x], argTypes := #[dT, sT] })
  (v u : Value) (hd : a.eval d = v) (hx : a.eval x = u) {v' : Value} {w' : World} (hr : (Builtin.append_ #[dT, sT] o.type #[v, u]).run P w = .ok v' w') (hK : K (a.put o.dst v') w') :
  if Region.wanted o (yielded ops a.tmps) = true then Oper.wp P o a w K Q else E := by
 have hw : Region.wanted o (yielded ops a.tmps) = true := by simp [Region.wanted, hg]
 rw [if_pos hw]
 unfold Oper.wp
 simp [execOp, hop, resolve, invoke, builtin, hd, hx, hr, Result.andThen]
 exact hK
set_option maxHeartbeats 1000000 in
set_option maxRecDepth 100000 in
theorem del_walk (blk off n cap i j : Nat) (w W1 : World) (A : Addr) (hi : i < j) (hj : j ≤ n) (hnc : n ≤ cap) (_hm : cap ≤ 9223372036854775807)
  (hA : (if cap = j then some (⟨blk, off, none⟩ : Addr) else some ⟨blk, off + j * 5, none⟩) = some A)
  (hrun : ∀ ty, (Builtin.append_ #[25, 25] ty #[.slice (some ⟨blk, off, none⟩) i cap, .slice (some A) (n - j) (cap - j)]).run Tryz.prog w.drew = .ok (.slice (some ⟨blk, off, none⟩) (i + (n - j)) cap) W1)
  (W2 : World) (hcl : ∀ ty, (Builtin.clear_ #[25] ty #[.slice (some ⟨blk, off + (i + (n - j)) * 5, none⟩) (n - (i + (n - j))) (cap - (i + (n - j)))]).run Tryz.prog W1 = .ok (.tuple #[]) W2) :
  Calls Tryz.prog 58 #[.slice (some ⟨blk, off, none⟩) n cap, .int .i64 i, .int .i64 j] w fun e w' => e = .returned (.slice (some ⟨blk, off, none⟩) (i + (n - j)) cap) ∧ w' = W2 := by
 have mixed : Tryz.prog.follows .mixedOrders = true := by kernel_rfl
 have hic : i ≤ cap := by omega
 have hjc : j ≤ cap := by omega
 have t25 := Tryz.underlying25; have a25 := Tryz.isAgg25; have z25 := Tryz.sizeOf25
 have t3 := Tryz.underlying3; have a3 := Tryz.isAgg3; have z3 := Tryz.sizeOf3
 have z27 := Tryz.sizeOf27
 go_enter Tryz.func58, Tryz.ntmps58
 go_wp2_with fail
 go_region_law_o (refine step_append_runI rfl (.tmp 22) (.tmp 25) 25 25 rfl _ _ (by simp [Act.eval, Act.put]) (by simp [Act.eval, Act.put]) (hrun _) ?_)
 have hne : ¬ (cap = i + (n - j)) := by omega
 go_wp2_with (at_builtin; simp only [hcl])
 go_ret
 exact ⟨rfl, rfl⟩
theorem wp_copy_runI {P : Program} (w : World) {o : Oper} {a : Act} {K : Act → World → Prop} {Q : Exit → Act → World → Prop} (d s : Operand) (t t' : TypeId)
  (ho : o.op = .call { callee := .builtin .copy, args := #[d, s], argTypes := #[t, t'] }) (v u : Value) (hd : a.eval d = v) (hs : a.eval s = u) {v' : Value} {w' : World}
  (hr : (Builtin.copy_ #[t, t'] o.type #[v, u]).run P w = .ok v' w') (h : K (a.put o.dst v') w') : o.wp P a w K Q := by
 unfold Oper.wp execOp
 simp only [ho, resolve, invoke, builtin, Sem.run_bind, Sem.run_pure, Result.andThen_ok, List.map_toArray, List.map_cons, List.map_nil, hd, hs, hr]
 exact h
theorem wpList_copy_runI {P : Program} (w : World) {ops : Array Oper} {rest : List Oper} {o : Oper} {a : Act} {Q : Exit → Act → World → Prop} (hgd : o.guard = none) (d s : Operand) (t t' : TypeId)
  (ho : o.op = .call { callee := .builtin .copy, args := #[d, s], argTypes := #[t, t'] }) (v u : Value) (hd : a.eval d = v) (hs : a.eval s = u) {v' : Value} {w' : World}
  (hr : (Builtin.copy_ #[t, t'] o.type #[v, u]).run P w = .ok v' w') (h : wpList P ops Q rest (a.put o.dst v') w') : wpList P ops Q (o :: rest) a w :=
 wpList_plain hgd fun _ hK => wp_copy_runI w d s t t' ho v u hd hs hr (hK _ _ h)
theorem step_copy_runI {P : Program} {ops : Array Oper} {o : Oper} {a : Act} {w : World} {K : Act → World → Prop} {Q : Exit → Act → World → Prop} {E : Prop}
  (hg : o.guard = none) (d x : Operand) (dT sT : TypeId) (hop : o.op = Op.call { callee := Callee.builtin Builtin.copy, args := #[d, x], argTypes := #[dT, sT] })
  (v u : Value) (hd : a.eval d = v) (hx : a.eval x = u) {v' : Value} {w' : World} (hr : (Builtin.copy_ #[dT, sT] o.type #[v, u]).run P w = .ok v' w') (hK : K (a.put o.dst v') w') :
  if Region.wanted o (yielded ops a.tmps) = true then Oper.wp P o a w K Q else E := by
 have hw : Region.wanted o (yielded ops a.tmps) = true := by simp [Region.wanted, hg]
 rw [if_pos hw]
 unfold Oper.wp
 simp [execOp, hop, resolve, invoke, builtin, hd, hx, hr, Result.andThen]
 exact hK
set_option maxHeartbeats 1000000 in
set_option maxRecDepth 100000 in
theorem ins_end (base : Option Addr) (n cap m vc : Nat) (vb : Addr) (w W1 : World) (hm : 0 < m) (hnc : n ≤ cap) (_hcm : cap ≤ 9223372036854775807) (hb : base = none → cap = 0) (r : Value)
  (hrun : ∀ ty, (Builtin.append_ #[25, 25] ty #[.slice base n cap, .slice (some vb) m vc]).run Tryz.prog w = .ok r W1) :
  Calls Tryz.prog 87 #[.slice base n cap, .int .i64 n, .slice (some vb) m vc] w fun e w' => e = .returned r ∧ w' = W1 := by
 have mixed : Tryz.prog.follows .mixedOrders = true := by kernel_rfl
 have hz1 : ¬ ((m : Int) = 0) := by omega
 have t25 := Tryz.underlying25; have a25 := Tryz.isAgg25; have z25 := Tryz.sizeOf25
 have t3 := Tryz.underlying3; have a3 := Tryz.isAgg3; have z3 := Tryz.sizeOf3
 have z27 := Tryz.sizeOf27
 go_enter Tryz.func87, Tryz.ntmps87
 cases base with
 | none =>
  have h0 := hb rfl
  subst h0
  have hn0 : n = 0 := by omega
  subst hn0
  go_wp2_with (at_builtin; refine Lib.wpList_append_run _ rfl _ _ _ _ rfl _ _ rfl rfl _ _ (hrun _) ?_)
  go_ret
  exact ⟨rfl, rfl⟩
 | some a =>
  obtain ⟨ab, ao, asp⟩ := a
  go_wp2_with (at_builtin; refine Lib.wpList_append_run _ rfl _ _ _ _ rfl _ _ rfl rfl _ _ (hrun _) ?_)
  all_goals (go_ret; exact ⟨rfl, rfl⟩)
set_option maxHeartbeats 1000000 in
set_option maxRecDepth 100000 in
theorem ins_grow (b off n cap i m vc : Nat) (vb : Addr) (nb c' : Nat) (w W1 W2 W3 : World) (hm : 0 < m) (hi : i < n) (hnc : n ≤ cap) (hcm : cap ≤ 9223372036854775807) (hroom : cap < n + m) (hbig : n + m ≤ 274877906944) (hc' : n + m ≤ c') (_hc2 : c' ≤ 9223372036854775807)
  (hrun : ∀ ty, (Builtin.append_ #[25, 3] ty #[.slice (some ⟨b, off, none⟩) i cap, .int .i64 ((n + m - i : Nat) : Int)]).run Tryz.prog w = .ok (.slice (some ⟨nb, 0, none⟩) (n + m) c') W1)
  (hc1 : ∀ ty, (Builtin.copy_ #[25, 25] ty #[.slice (some ⟨nb, i * 5, none⟩) (n + m - i) (c' - i), .slice (some vb) m vc]).run Tryz.prog W1 = .ok (goInt m) W2)
  (hc3 : ∀ ty, (Builtin.copy_ #[25, 25] ty #[.slice (some ⟨nb, (i + m) * 5, none⟩) (n + m - (i + m)) (c' - (i + m)), .slice (some ⟨b, off + i * 5, none⟩) (n - i) (cap - i)]).run Tryz.prog W2.drew = .ok (goInt ((n - i : Nat) : Int)) W3) :
  Calls Tryz.prog 87 #[.slice (some ⟨b, off, none⟩) n cap, .int .i64 i, .slice (some vb) m vc] w fun e w' => e = .returned (.slice (some ⟨nb, 0, none⟩) (n + m) c') ∧ w' = W3 := by
 have mixed : Tryz.prog.follows .mixedOrders = true := by kernel_rfl
 have hz1 : ¬ ((m : Int) = 0) := by omega
 have hz2 : ¬ ((i : Int) = (n : Int)) := by omega
 have t25 := Tryz.underlying25; have a25 := Tryz.isAgg25; have z25 := Tryz.sizeOf25
 have t3 := Tryz.underlying3; have a3 := Tryz.isAgg3; have z3 := Tryz.sizeOf3
 have z27 := Tryz.sizeOf27
 have hw1 : IntKind.i64.wrap ((i : Int) + (m : Int)) = (i : Int) + (m : Int) := by rw [IntKind.wrap_i64]; omega
 have hw2 : IntKind.i64.wrap ((n : Int) + (m : Int)) = (n : Int) + (m : Int) := by rw [IntKind.wrap_i64]; omega
 have hw3 : IntKind.i64.wrap ((n : Int) + (m : Int) - (i : Int)) = ((n + m - i : Nat) : Int) := by rw [IntKind.wrap_i64]; omega
 have hb1 : (0 : Int) ≤ (i : Int) + (m : Int) := by omega
 have htn : ((i : Int) + (m : Int)).toNat = i + m := by omega
 have hb3 : (i : Int) ≤ (n : Int) + (m : Int) := by omega
 have hb2 : ¬ (c' = i + m) := by omega
 have hb4 : ¬ (c' = i) := by omega
 have hb5 : ¬ (cap = i) := by omega
 have hb6 : (cap : Int) < (n : Int) + (m : Int) := by omega
 have hb7 : i ≤ c' := by omega
 have hb8 : i + m ≤ c' := by omega
 have hb9 : i ≤ cap := by omega
 have hb10 : i ≤ n := by omega
 have hb11 : i + m ≤ n + m := by omega
 have hb12 : i ≤ n + m := by omega
 go_enter Tryz.func87, Tryz.ntmps87
 go_wp2_with (at_builtin; first | refine Lib.wpList_append_run _ rfl _ _ _ _ rfl _ _ rfl rfl _ _ (hrun _) ?_ | refine wpList_copy_runI _ rfl _ _ 25 25 rfl _ _ rfl rfl (hc1 _) ?_)
 go_region_law_o (refine step_copy_runI rfl _ _ 25 25 rfl _ _ (by simp [Act.eval, Act.put]) (by simp [Act.eval, Act.put]) (hc3 _) ?_)
 go_wp2
 go_ret
 exact ⟨rfl, rfl⟩
set_option maxHeartbeats 1000000 in
set_option maxRecDepth 100000 in
theorem ins_shift (b off n cap i m vc : Nat) (vb : Addr) (w W1 W2 : World) (hm : 0 < m) (hi : i < n) (hnc : n ≤ cap) (hcm : cap ≤ 9223372036854775807) (hroom : n + m ≤ cap) (hbig : n + m ≤ 274877906944)
  (hov : ∀ lb cb, (callFunc 104 #[.slice (some vb) m vc, .slice (some ⟨b, off + (i + m) * 5, none⟩) lb cb]).run Tryz.prog w = .ok (.value (.bool false)) w)
  (hc1 : ∀ ty, (Builtin.copy_ #[25, 25] ty #[.slice (some ⟨b, off + (i + m) * 5, none⟩) (n + m - (i + m)) (cap - (i + m)), .slice (some ⟨b, off + i * 5, none⟩) (n + m - i) (cap - i)]).run Tryz.prog w.drew = .ok (goInt ((n - i : Nat) : Int)) W1)
  (hc2 : ∀ ty, (Builtin.copy_ #[25, 25] ty #[.slice (some ⟨b, off + i * 5, none⟩) (n + m - i) (cap - i), .slice (some vb) m vc]).run Tryz.prog W1 = .ok (goInt m) W2) :
  Calls Tryz.prog 87 #[.slice (some ⟨b, off, none⟩) n cap, .int .i64 i, .slice (some vb) m vc] w fun e w' => e = .returned (.slice (some ⟨b, off, none⟩) (n + m) cap) ∧ w' = W2 := by
 have mixed : Tryz.prog.follows .mixedOrders = true := by kernel_rfl
 have hz1 : ¬ ((m : Int) = 0) := by omega
 have hz2 : ¬ ((i : Int) = (n : Int)) := by omega
 have t25 := Tryz.underlying25; have a25 := Tryz.isAgg25; have z25 := Tryz.sizeOf25
 have t3 := Tryz.underlying3; have a3 := Tryz.isAgg3; have z3 := Tryz.sizeOf3
 have z27 := Tryz.sizeOf27
 have hw1 : IntKind.i64.wrap ((i : Int) + (m : Int)) = (i : Int) + (m : Int) := by rw [IntKind.wrap_i64]; omega
 have hw2 : IntKind.i64.wrap ((n : Int) + (m : Int)) = (n : Int) + (m : Int) := by rw [IntKind.wrap_i64]; omega
 have hb1 : (0 : Int) ≤ (i : Int) + (m : Int) := by omega
 have hb0 : (0 : Int) ≤ (n : Int) + (m : Int) := by omega
 have htn : ((i : Int) + (m : Int)).toNat = i + m := by omega
 have htm : ((n : Int) + (m : Int)).toNat = n + m := by omega
 have hb3 : (i : Int) ≤ (n : Int) + (m : Int) := by omega
 have hb2 : ¬ (cap = i + m) := by omega
 have hb5 : ¬ (cap = i) := by omega
 have hb6 : ¬ ((cap : Int) < (n : Int) + (m : Int)) := by omega
 have hb7 : (n : Int) + (m : Int) ≤ (cap : Int) := by omega
 have hb8 : i + m ≤ n + m := by omega
 have hb9 : i ≤ n := by omega
 go_enter Tryz.func87, Tryz.ntmps87
 go_wp2_with (simp only [hov])
 go_region_law_o (refine step_copy_runI rfl _ _ 25 25 rfl _ _ (by simp [Act.eval, Act.put]) (by simp [Act.eval, Act.put]) (hc1 _) ?_)
 go_wp2_with (at_builtin; refine wpList_copy_runI _ rfl _ _ 25 25 rfl _ _ rfl rfl (hc2 _) ?_)
 go_ret
 exact ⟨rfl, rfl⟩
theorem app_raw0 {P : Program} (w : World) (t ty e : TypeId) {i : TypeInfo} {zv : Value} (ht : P.underlying t = some (.slice e)) (hi : P.info? e = some i) (hz : i.zero = some zv) (hzs : zv.cells.size = i.size) (_h0 : 0 < i.size) (hz1 : ∀ q ∈ zv.cells.toList, q.oneCell' = true)
  (base : Option (Nat × Nat)) (n c : Nat) (fl : List Value) (hfl : fl.length = n * i.size) (hbase : base = none → c = 0) (hnc : n ≤ c)
  (holds : ∀ b o, base = some (b, o) → ∀ j q, fl[j]? = some q → w.cell? ⟨b, o + j, none⟩ = some q)
  (ub : Option (Nat × Nat)) (m ku : Nat) (gl : List Value) (hgl : gl.length = m * i.size) (hub : ub = none → m = 0) (hnews : ∀ b o, ub = some (b, o) → ∀ j q, gl[j]? = some q → w.cell? ⟨b, o + j, none⟩ = some q)
  (h1 : ∀ q ∈ gl, q.oneCell' = true) (hb : (n + m) * i.bytes ≤ 140737488355328) (hl : n + m ≤ 274877906944) :
  (m = 0 ∧ (Builtin.append_ #[t, t] ty #[.slice (sladdr base) n c, .slice (sladdr ub) m ku]).run P w = .ok (.slice (sladdr base) n c) w) ∨
  (0 < m ∧ n + m ≤ c ∧ ∃ b o, base = some (b, o) ∧ ∀ cur e', w.heap[b]? = some (.cells cur e' (0, 0)) → o + c * i.size ≤ cur.size →
   (Builtin.append_ #[t, t] ty #[.slice (sladdr base) n c, .slice (sladdr ub) m ku]).run P w =
    .ok (.slice (sladdr base) (n + m) c) (w.setRow b (cur.toList.take (o + n * i.size) ++ gl ++ cur.toList.drop (o + n * i.size + gl.length)).toArray)) ∨
  (0 < m ∧ c < n + m ∧ ∃ cap rest, n + m ≤ cap ∧ cap ≤ maxLen ∧ rest.length = (cap - (n + m)) * i.size ∧ (∀ q ∈ rest, q.oneCell' = true) ∧
   (Builtin.append_ #[t, t] ty #[.slice (sladdr base) n c, .slice (sladdr ub) m ku]).run P w =
    .ok (.slice (some ⟨w.heap.size, 0, none⟩) (n + m) cap) (w.drew.alloc (.cells (fl ++ gl ++ rest).toArray e))) :=
 app_raw w t ty e ht hi hz hzs _h0 hz1 base n c fl hfl hbase hnc holds (sladdr ub) m ku gl hgl (fun h => hub (by cases ub <;> first | rfl | cases h)) (fun ad e j q hq => by
  cases ub with
  | none => cases e
  | some p => cases e; rw [addr_add]; exact hnews p.1 p.2 rfl j q hq) h1 hb hl
end Go.Bm
namespace Go.Bm
open Go Go.Proofs Go.Lib
open Go.RowKit (Below)
theorem over_size {cur : Array Value} {o : Nat} {cs : List Value} (h : o + cs.length ≤ cur.size) : (over cur o cs).size = cur.size := by
 simp only [over, List.size_toArray, List.length_append, List.length_take, List.length_drop, Array.length_toList (xs := cur)]
 omega
theorem over_get {cur : Array Value} {o : Nat} {cs : List Value} (h : o + cs.length ≤ cur.size) (j : Nat) : (over cur o cs)[j]? = if j < o then cur[j]? else if j < o + cs.length then cs[j - o]? else cur[j]? := by
 have := lay_get (l := cur.toList) (us := cs) (off := o) (by rw [Array.length_toList (xs := cur)]; exact h) j
 simp only [over, List.getElem?_toArray, this, Array.getElem?_toList]
theorem over_one {cur : Array Value} {o : Nat} {cs : List Value} (h : ∀ u ∈ cur.toList, u.oneCell' = true) (h' : ∀ u ∈ cs, u.oneCell' = true) : ∀ u ∈ (over cur o cs).toList, u.oneCell' = true := by
 intro u hu
 simp only [over] at hu
 rcases List.mem_append.1 hu with hu | hu
 ·rcases List.mem_append.1 hu with hu | hu
  ·exact h u (List.mem_of_mem_take hu)
  ·exact h' u hu
 ·exact h u (List.mem_of_mem_drop hu)
theorem ins_get {fl gl : List Value} {a : Nat} (ha : a ≤ fl.length) (q : Nat) : (fl.take a ++ gl ++ fl.drop a)[q]? = if q < a then fl[q]? else if q < a + gl.length then gl[q - a]? else fl[q - gl.length]? := by
 have e1 : (fl.take a).length = a := by rw [List.length_take]; omega
 by_cases h1 : q < a
 ·rw [if_pos h1, List.append_assoc, List.getElem?_append_left (by omega), List.getElem?_take, if_pos h1]
 ·rw [if_neg h1]
  by_cases h2 : q < a + gl.length
  ·rw [if_pos h2, List.append_assoc, List.getElem?_append_right (by omega), e1, List.getElem?_append_left (by omega)]
  ·rw [if_neg h2, List.getElem?_append_right (by rw [List.length_append, e1]; omega), List.length_append, e1, List.getElem?_drop]
   congr 1; omega
theorem belows_row {X : Foot} (w : World) (b : Nat) (cs : Array Value) (hX : X b) : Belows X w (w.setRow b cs) :=
 ⟨rfl, rfl, rfl, by simp, fun k _ hn => setRow_other w b k cs fun e => hn (e ▸ hX)⟩
theorem belows_drew (X : Foot) (w : World) : Belows X w w.drew := ⟨rfl, rfl, rfl, Nat.le_refl _, fun _ _ _ => rfl⟩
theorem belows_alloc (X : Foot) (w : World) (o : Obj) : Belows X w (w.drew.alloc o) :=
 have := below_drew_alloc w o
 ⟨this.os, this.tape, this.output, this.size, fun k hk _ => this.block k hk⟩
def zV : Value := .agg #[.int .i64 0, .int .i64 0, .float .f64 0, .string ⟨#[]⟩, .slice none 0 0]
theorem i27 : ∃ i, Tryz.prog.info? 27 = some i ∧ i.zero = some zV ∧ i.size = 5 ∧ i.bytes = 64 := by
 have h : (Tryz.prog.info? 27).map (fun i => (i.zero, i.size, i.bytes)) = some (some zV, 5, 64) := by kernel_rfl
 cases e : Tryz.prog.info? 27 with
 | none => simp [e] at h
 | some i =>
  simp only [e, Option.map_some, Option.some.injEq, Prod.mk.injEq] at h
  exact ⟨i, rfl, h.1, h.2.1, h.2.2⟩
theorem sz27 : (Tryz.prog.info? 27).map (·.size) = some 5 := by kernel_rfl
theorem zV_one : ∀ q ∈ zV.cells.toList, q.oneCell' = true := by
 intro q hq
 simp [zV, Value.cells] at hq
 rcases hq with rfl | rfl | rfl | rfl <;> rfl
theorem ins_raw : InsRaw Tryz.prog 87 5 64 := by
 intro w base n c i vb vo m vc fl gl hi hnc hcm hbn hm hbig hbig' hfl hgl hf1 hg1 hbase hvb
 obtain ⟨vcur, vty, hvh, hvg⟩ := hvb
 obtain ⟨i0, hi0, hz0, hs0, hb0⟩ := i27
 have hcm' : c ≤ 9223372036854775807 := by unfold maxLen at hcm; omega
 have hgcell : ∀ j q, gl[j]? = some q → w.cell? ⟨vb, vo + j, none⟩ = some q := fun j q h => by rw [cell_of_heap hvh]; exact hvg j q h
 by_cases hin : i = n
 ·subst hin
  have ha : ∀ ty, _ := fun ty => app_raw0 (P := Tryz.prog) w 25 ty 27 Tryz.underlying25 hi0 hz0 (by rw [hs0]; rfl) (by omega) zV_one base i c fl (by rw [hs0]; exact hfl) hbn hnc
   (fun b o e j q hq => by
    have hc : 0 < c := by
     have := (List.getElem?_eq_some_iff.1 hq).1
     omega
    obtain ⟨_, cur, ty, h1, _, _, h4⟩ := hbase b o e hc
    rw [cell_of_heap h1]; exact h4 j q hq)
   (some (vb, vo)) m vc gl (by rw [hs0]; exact hgl) (fun e => by cases e) (fun b o e j q hq => by cases e; exact hgcell j q hq) hg1 (by rw [hb0]; exact hbig) hbig'
  have hfull : fl.take (i * 5) ++ gl ++ fl.drop (i * 5) = fl ++ gl := by
   rw [List.take_of_length_le (by omega), List.drop_eq_nil_of_le (by omega), List.append_nil]
  by_cases hroom : i + m ≤ c
  ·have hc : 0 < c := by omega
   obtain ⟨b, o, rfl⟩ : ∃ b o, base = some (b, o) := by
    cases base with
    | none => have := hbn rfl; omega
    | some p => exact ⟨p.1, p.2, rfl⟩
   obtain ⟨_, cur, ty, h1, h2, h3, h4⟩ := hbase b o rfl hc
   have hfit : o + i * 5 + gl.length ≤ cur.size := by omega
   have hrun : ∀ ty', (Builtin.append_ #[25, 25] ty' #[.slice (some ⟨b, o, none⟩) i c, .slice (some ⟨vb, vo, none⟩) m vc]).run Tryz.prog w = .ok (.slice (some ⟨b, o, none⟩) (i + m) c) (w.setRow b (over cur (o + i * 5) gl)) := fun ty' => by
    rcases ha ty' with ⟨h, _⟩ | ⟨_, _, b', o', e, h⟩ | ⟨_, h, _⟩
    ·omega
    ·cases e
     have := h cur ty h1 (by rw [hs0]; omega)
     rw [hs0] at this
     exact this
    ·omega
   refine Calls.mono (ins_end (some ⟨b, o, none⟩) i c m vc ⟨vb, vo, none⟩ w _ hm hnc hcm' (fun e => by cases e) _ hrun) ?_
   rintro e w' ⟨rfl, rfl⟩
   refine ⟨b, o, c, over cur (o + i * 5) gl, ty, rfl, setRow_heap w b cur _ ty (0, 0) h1, belows_row w b _ ⟨hc, o, rfl⟩, .inr ⟨hc, o, rfl⟩, by rw [over_size hfit]; exact h2, over_one h3 hg1, hroom, hcm, fun q u hq => ?_⟩
   rw [ins_get (by omega)] at hq
   rw [over_get hfit]
   split at hq
   ·rw [if_pos (by omega)]; exact h4 q u hq
   ·split at hq
    ·rw [if_neg (by omega), if_pos (by omega), show o + q - (o + i * 5) = q - i * 5 by omega]; exact hq
    ·have := (List.getElem?_eq_some_iff.1 hq).1
     omega
  ·obtain ⟨cap, rest, h1, h2, h3, h4, hrun⟩ : ∃ cap rest, i + m ≤ cap ∧ cap ≤ maxLen ∧ rest.length = (cap - (i + m)) * 5 ∧ (∀ q ∈ rest, q.oneCell' = true) ∧ ∀ ty,
     (Builtin.append_ #[25, 25] ty #[.slice (sladdr base) i c, .slice (some ⟨vb, vo, none⟩) m vc]).run Tryz.prog w = .ok (.slice (some ⟨w.heap.size, 0, none⟩) (i + m) cap) (w.drew.alloc (.cells (fl ++ gl ++ rest).toArray 27)) := by
    rcases ha 25 with ⟨h, _⟩ | ⟨_, h, _⟩ | ⟨_, _, cap, rest, h1, h2, h3, h4, hrun⟩
    ·omega
    ·omega
    ·refine ⟨cap, rest, h1, h2, by rw [hs0] at h3; exact h3, h4, fun ty => ?_⟩
     have e : ∀ t, Builtin.append_ #[25, 25] t = Builtin.append_ #[25, 25] 25 := fun t => by rfl
     rw [e]; exact hrun
   refine Calls.mono (ins_end (sladdr base) i c m vc ⟨vb, vo, none⟩ w _ hm hnc hcm' (fun e => hbn (by cases base with | none => rfl | some p => cases e)) _ hrun) ?_
   rintro e w' ⟨rfl, rfl⟩
   refine ⟨w.heap.size, 0, cap, (fl ++ gl ++ rest).toArray, 27, rfl, (heap_alloc_new w.drew (.cells (fl ++ gl ++ rest).toArray 27) :), belows_alloc _ w _, .inl (Nat.le_refl _), ?_, ?_, h1, h2, fun q u hq => ?_⟩
   ·simp only [List.size_toArray, List.length_append]; omega
   ·intro u hu
    rcases List.mem_append.1 hu with hu | hu
    ·rcases List.mem_append.1 hu with hu | hu
     ·exact hf1 u hu
     ·exact hg1 u hu
    ·exact h4 u hu
   ·rw [hfull] at hq
    have := (List.getElem?_eq_some_iff.1 hq).1
    rw [Nat.zero_add, List.getElem?_toArray, List.getElem?_append_left this]; exact hq
 ·have hlt : i < n := by omega
  have hc : 0 < c := by omega
  obtain ⟨b, o, rfl⟩ : ∃ b o, base = some (b, o) := by
   cases base with
   | none => have := hbn rfl; omega
   | some p => exact ⟨p.1, p.2, rfl⟩
  obtain ⟨hne, cur, ty, h1, h2, h3, h4⟩ := hbase b o rfl hc
  have hfcell : ∀ j q, fl[j]? = some q → w.cell? ⟨b, o + j, none⟩ = some q := fun j q h => by rw [cell_of_heap h1]; exact h4 j q h
  have hdl : (fl.drop (i * 5)).length = (n - i) * 5 := by rw [List.length_drop]; omega
  by_cases hroom : n + m ≤ c
  ·-- in place
   have hfit1 : o + (i + m) * 5 + (fl.drop (i * 5)).length ≤ cur.size := by omega
   have hs1 := over_size hfit1
   have hfit2 : o + i * 5 + gl.length ≤ (over cur (o + (i + m) * 5) (fl.drop (i * 5))).size := by omega
   have hg : w.drew.heap[b]? = some (.cells cur ty (0, 0)) := h1
   have hg1' := setRow_heap w.drew b cur (over cur (o + (i + m) * 5) (fl.drop (i * 5))) ty (0, 0) hg
   have hc1 : ∀ ty', (Builtin.copy_ #[25, 25] ty' #[.slice (some ⟨b, o + (i + m) * 5, none⟩) (n + m - (i + m)) (c - (i + m)), .slice (some ⟨b, o + i * 5, none⟩) (n + m - i) (c - i)]).run Tryz.prog w.drew = .ok (goInt ((n - i : Nat) : Int)) (w.drew.setRow b (over cur (o + (i + m) * 5) (fl.drop (i * 5)))) := fun ty' =>
    run_copyZ (P := Tryz.prog) w.drew 25 25 ty' 27 5 b (o + (i + m) * 5) (n + m - (i + m)) (c - (i + m)) ⟨b, o + i * 5, none⟩ (n + m - i) (c - i) cur ty (fl.drop (i * 5)) (n - i) Tryz.underlying25 sz27 hg (by simp only [Nat.min_def]; split <;> omega) hdl
     (fun j v hj => by rw [Addr.add_lit, Nat.add_assoc]; exact hfcell _ v (by rwa [List.getElem?_drop] at hj)) hfit1 (fun v hv => hf1 v (List.mem_of_mem_drop hv))
   have hc2 : ∀ ty', (Builtin.copy_ #[25, 25] ty' #[.slice (some ⟨b, o + i * 5, none⟩) (n + m - i) (c - i), .slice (some ⟨vb, vo, none⟩) m vc]).run Tryz.prog (w.drew.setRow b (over cur (o + (i + m) * 5) (fl.drop (i * 5)))) = .ok (goInt m) ((w.drew.setRow b (over cur (o + (i + m) * 5) (fl.drop (i * 5)))).setRow b (over (over cur (o + (i + m) * 5) (fl.drop (i * 5))) (o + i * 5) gl)) := fun ty' =>
    run_copyZ (P := Tryz.prog) _ 25 25 ty' 27 5 b (o + i * 5) (n + m - i) (c - i) ⟨vb, vo, none⟩ m vc _ ty gl m Tryz.underlying25 sz27 hg1' (by simp only [Nat.min_def]; split <;> omega) hgl
     (fun j v hj => by
      rw [Addr.add_lit, cell_setRow_other _ b _ _ (fun e => hne e.symm)]
      exact hgcell j v hj) hfit2 hg1
   have hov : ∀ lb cb, (callFunc 104 #[.slice (some ⟨vb, vo, none⟩) m vc, .slice (some ⟨b, o + (i + m) * 5, none⟩) lb cb]).run Tryz.prog w = .ok (.value (.bool false)) w := fun lb cb => by
    rw [run_callFunc_extern Tryz.func104 (by kernel_rfl) (by kernel_rfl) (by kernel_rfl) (e := Extern.SlicesOverlaps.overlaps #[25, 25] #[4]) (by kernel_rfl),
     Lib.run_overlaps_apart w 25 4 27 Tryz.underlying25 5 Tryz.sizeOf27 ⟨vb, vo, none⟩ ⟨b, o + (i + m) * 5, none⟩ m vc lb cb (fun e => hne e.symm) vty ty vcur.size cur.size (by simp [World.shape?, hvh]) (by simp [World.shape?, h1]) (by omega) (by simp [World.frozen?, hvh]) (by simp [World.frozen?, hvh])]
    rfl
   refine Calls.mono (ins_shift b o n c i m vc ⟨vb, vo, none⟩ w _ _ hm hlt hnc hcm' hroom hbig' hov hc1 hc2) ?_
   rintro e w' ⟨rfl, rfl⟩
   refine ⟨b, o, c, _, ty, rfl, setRow_heap _ b _ _ ty (0, 0) hg1', ((belows_drew _ w).trans (belows_row _ b _ ⟨hc, o, rfl⟩)).trans (belows_row _ b _ ⟨hc, o, rfl⟩), .inr ⟨hc, o, rfl⟩, by rw [over_size hfit2, hs1]; exact h2,
    over_one (over_one h3 fun v hv => hf1 v (List.mem_of_mem_drop hv)) hg1, hroom, hcm, fun q u hq => ?_⟩
   rw [ins_get (by omega)] at hq
   rw [over_get hfit2]
   split at hq
   ·rw [if_pos (by omega), over_get hfit1, if_pos (by omega)]; exact h4 q u hq
   ·split at hq
    ·rw [if_neg (by omega), if_pos (by omega), show o + q - (o + i * 5) = q - i * 5 by omega]; exact hq
    ·have := (List.getElem?_eq_some_iff.1 hq).1
     rw [if_neg (by omega), if_neg (by omega), over_get hfit1, if_neg (by omega), if_pos (by omega), List.getElem?_drop, show i * 5 + (o + q - (o + (i + m) * 5)) = q - gl.length by omega]; exact hq
  ·-- a new row
   have hold : (Builtin.firstCells i0.size i (.slice (some ⟨b, o, none⟩) i c)).run Tryz.prog w.drew = .ok (fl.take (i * 5)).toArray w.drew :=
    run_firstCells_some w.drew i0.size i ⟨b, o, none⟩ i c (fl.take (i * 5)) (by rw [hs0, List.length_take]; omega) (fun j v hj => by
     rw [Addr.add_lit]
     rw [List.getElem?_take] at hj
     split at hj
     ·exact hfcell j v hj
     ·cases hj)
   have hk : i + (n + m - i) = n + m := by omega
   have hrun : ∀ ty', (Builtin.append_ #[25, 3] ty' #[.slice (some ⟨b, o, none⟩) i c, .int .i64 ((n + m - i : Nat) : Int)]).run Tryz.prog w = .ok (.slice (some ⟨w.heap.size, 0, none⟩) (n + m) (grownCap w (n + m) c 27))
     (w.drew.alloc (.cells ((fl.take (i * 5)).toArray ++ Builtin.zeroCells zV.cells (n + m - i) ++ Builtin.zeroCells zV.cells (grownCap w (n + m) c 27 - (n + m))) 27)) := fun ty' => by
    have := run_append_grow_zeros (P := Tryz.prog) w 25 3 ty' 27 i0 zV .i64 .i64 Tryz.underlying25 Tryz.underlying3 hi0 hz0 (some ⟨b, o, none⟩) i c (fl.take (i * 5)) hold (n + m - i) (by omega) (by omega) (by omega) (by omega) (by rw [hb0]; omega) (by rw [hb0, hk]; exact growslice_fits (by omega) hbig)
    rw [hk] at this
    exact this
   have hge := grownCap_ge w (n + m) c 27
   have hle := grownCap_le_maxLen w (n + m) c 27 (by unfold maxLen; omega)
   generalize grownCap w (n + m) c 27 = c' at hrun hge hle
   have hzs : zV.cells.size = 5 := rfl
   obtain ⟨row, hrow⟩ : ∃ row, row = (fl.take (i * 5)).toArray ++ Builtin.zeroCells zV.cells (n + m - i) ++ Builtin.zeroCells zV.cells (c' - (n + m)) := ⟨_, rfl⟩
   have hrs : row.size = c' * 5 := by
    rw [hrow]; simp only [Array.size_append, size_zeroCells, hzs, List.size_toArray, List.length_take]; omega
   have hr1 : ∀ u ∈ row.toList, u.oneCell' = true := by
    intro u hu
    rw [hrow, Array.toList_append, Array.toList_append] at hu
    rcases List.mem_append.1 hu with hu | hu
    ·rcases List.mem_append.1 hu with hu | hu
     ·exact hf1 u (List.mem_of_mem_take hu)
     ·exact zeroCells_one zV_one _ u hu
    ·exact zeroCells_one zV_one _ u hu
   have hrg : ∀ q, q < i * 5 → row[q]? = fl[q]? := fun q hq => by
    rw [hrow, Array.append_assoc, Array.getElem?_append_left (by simp only [List.size_toArray, List.length_take]; omega), List.getElem?_toArray, List.getElem?_take, if_pos hq]
   rw [← hrow] at hrun
   clear hrow
   have hfit1 : i * 5 + gl.length ≤ row.size := by omega
   have hs1 := over_size hfit1
   have hfit2 : (i + m) * 5 + (fl.drop (i * 5)).length ≤ (over row (i * 5) gl).size := by omega
   have hW1 : (w.drew.alloc (.cells row 27)).heap[w.heap.size]? = some (.cells row 27 (0, 0)) := heap_alloc_new w.drew _
   have hW2 := setRow_heap (w.drew.alloc (.cells row 27)) w.heap.size row (over row (i * 5) gl) 27 (0, 0) hW1
   have hvlt := heap_lt hvh
   have hblt := heap_lt h1
   have hal : ∀ x, x < w.heap.size → (w.drew.alloc (.cells row 27)).heap[x]? = w.heap[x]? := fun x hx => (below_drew_alloc w (.cells row 27)).block x hx
   have hc1 : ∀ ty', (Builtin.copy_ #[25, 25] ty' #[.slice (some ⟨w.heap.size, i * 5, none⟩) (n + m - i) (c' - i), .slice (some ⟨vb, vo, none⟩) m vc]).run Tryz.prog (w.drew.alloc (.cells row 27)) = .ok (goInt m) ((w.drew.alloc (.cells row 27)).setRow w.heap.size (over row (i * 5) gl)) := fun ty' =>
    run_copyZ (P := Tryz.prog) _ 25 25 ty' 27 5 w.heap.size (i * 5) (n + m - i) (c' - i) ⟨vb, vo, none⟩ m vc row 27 gl m Tryz.underlying25 sz27 hW1 (by simp only [Nat.min_def]; split <;> omega) hgl
     (fun j v hj => by rw [Addr.add_lit, World.cell?_of_block (w := w) (a := ⟨vb, vo + j, none⟩) (hal vb hvlt)]; exact hgcell j v hj) hfit1 hg1
   have hc3 : ∀ ty', (Builtin.copy_ #[25, 25] ty' #[.slice (some ⟨w.heap.size, (i + m) * 5, none⟩) (n + m - (i + m)) (c' - (i + m)), .slice (some ⟨b, o + i * 5, none⟩) (n - i) (c - i)]).run Tryz.prog ((w.drew.alloc (.cells row 27)).setRow w.heap.size (over row (i * 5) gl)).drew =
     .ok (goInt ((n - i : Nat) : Int)) (((w.drew.alloc (.cells row 27)).setRow w.heap.size (over row (i * 5) gl)).drew.setRow w.heap.size (over (over row (i * 5) gl) ((i + m) * 5) (fl.drop (i * 5)))) := fun ty' =>
    run_copyZ (P := Tryz.prog) _ 25 25 ty' 27 5 w.heap.size ((i + m) * 5) (n + m - (i + m)) (c' - (i + m)) ⟨b, o + i * 5, none⟩ (n - i) (c - i) (over row (i * 5) gl) 27 (fl.drop (i * 5)) (n - i) Tryz.underlying25 sz27 hW2 (by simp only [Nat.min_def]; split <;> omega) hdl
     (fun j v hj => by
      rw [Addr.add_lit, Nat.add_assoc, World.cell?_of_block (w := w) (a := ⟨b, o + (i * 5 + j), none⟩) (by
       show ((w.drew.alloc (.cells row 27)).setRow w.heap.size (over row (i * 5) gl)).heap[b]? = _
       rw [setRow_other _ _ b _ (by omega)]; exact hal b hblt)]
      exact hfcell _ v (by rwa [List.getElem?_drop] at hj)) hfit2 (fun v hv => hf1 v (List.mem_of_mem_drop hv))
   refine Calls.mono (ins_grow b o n c i m vc ⟨vb, vo, none⟩ w.heap.size c' w _ _ _ hm hlt hnc hcm' (by omega) hbig' hge (by unfold maxLen at hle; omega) hrun hc1 hc3) ?_
   rintro e w' ⟨rfl, rfl⟩
   refine ⟨w.heap.size, 0, c', _, 27, rfl, setRow_heap _ _ _ _ 27 (0, 0) hW2, ?_, .inl (Nat.le_refl _), by rw [over_size hfit2, hs1, hrs]; omega, over_one (over_one hr1 hg1) (fun v hv => hf1 v (List.mem_of_mem_drop hv)), hge, hle, fun q u hq => ?_⟩
   ·refine ⟨rfl, rfl, rfl, ?_, fun k hk _ => ?_⟩
    ·show w.heap.size ≤ (World.setRow (World.drew _) _ _).heap.size
     rw [setRow_size]
     show w.heap.size ≤ (World.setRow _ _ _).heap.size
     rw [setRow_size]
     exact (below_drew_alloc w _).size
    ·rw [setRow_other _ _ k _ (by omega)]
     show ((w.drew.alloc (.cells row 27)).setRow w.heap.size (over row (i * 5) gl)).heap[k]? = _
     rw [setRow_other _ _ k _ (by omega)]; exact hal k hk
   ·rw [ins_get (by omega)] at hq
    rw [Nat.zero_add, over_get hfit2]
    split at hq
    ·rw [if_pos (by omega), over_get hfit1, if_pos (by omega), hrg q (by omega)]; exact hq
    ·split at hq
     ·rw [if_pos (by omega), over_get hfit1, if_neg (by omega), if_pos (by omega)]; exact hq
     ·have := (List.getElem?_eq_some_iff.1 hq).1
      rw [if_neg (by omega), if_pos (by omega), List.getElem?_drop, show i * 5 + (q - (i + m) * 5) = q - gl.length by omega]; exact hq
theorem callFunc_enter {P : Program} {f : FuncId} {fn : Func} (hf : P.funcs[f]? = some fn) (hn : (fn.name == "runtime.NumGoroutine") = false) (hb : fn.body.isSome = true) (vs : Array Value) (w : World) : (callFunc f vs).run P w = .ok (.enter f vs) w := by
 have hn' : ¬ fn.name = "runtime.NumGoroutine" := by simpa using hn
 obtain ⟨c, hc⟩ := Option.isSome_iff_exists.1 hb
 simp [callFunc, hf, hn', hc]
theorem f87_ok (xs rs : List (List M)) (i : Nat) (hi : i ≤ xs.length) (hm : 0 < rs.length) (hbig : xs.length + rs.length ≤ 274877906944) :
  CallOk Tryz.prog 87 [.sb CB 5 0 xs.length, .t (.s (.int .i64 (i : Int))), .sb (CB + 1) 5 0 rs.length] [.oa [] 5 xs, .oa [] 5 rs] (.ret (.oa [] 5 (xs.take i ++ rs ++ xs.drop i))) [.gone, .gone] :=
 InsRaw.ok (bytes := 64) (by decide) (callFunc_enter Tryz.func87 (by kernel_rfl) (by kernel_rfl)) ins_raw xs rs i hi hm (by omega) hbig
end Go.Bm
namespace Go.Bm
open Go Go.Proofs Go.Lib
open Go.RowKit (Below)
def DelRaw (P : Program) (f : FuncId) (z : Nat) : Prop :=
 ∀ (w : World) (b o n c i j : Nat) (fl : List Value) (cur : Array Value) (ty : TypeId), i < j → j ≤ n → n ≤ c → n ≤ 274877906944 → c ≤ maxLen → fl.length = n * z → (∀ u ∈ fl, u.oneCell' = true) →
  w.heap[b]? = some (.cells cur ty (0, 0)) → cur.size = o + c * z → (∀ u ∈ cur.toList, u.oneCell' = true) → (∀ q u, fl[q]? = some u → cur[o + q]? = some u) →
  Calls P f #[.slice (some ⟨b, o, none⟩) n c, .int .i64 i, .int .i64 j] w fun e w' =>
   ∃ cur', e = .returned (.slice (some ⟨b, o, none⟩) (i + (n - j)) c) ∧ w'.heap[b]? = some (.cells cur' ty (0, 0)) ∧ Belows (fun x => x = b) w w' ∧
    cur'.size = o + c * z ∧ (∀ u ∈ cur'.toList, u.oneCell' = true) ∧ ∀ q u, (fl.take (i * z) ++ fl.drop (j * z))[q]? = some u → cur'[o + q]? = some u
theorem DelRaw.ok {P : Program} {f : FuncId} {z : Nat} (h0 : 0 < z) (hf : ∀ (vs : Array Value) (w : World), (callFunc f vs).run P w = .ok (.enter f vs) w) (hr : DelRaw P f z) (xs : List (List M)) (i j : Nat) (hij : i < j) (hj : j ≤ xs.length) :
    CallOk P f [.sb CB z 0 xs.length, .t (.s (.int .i64 (i : Int))), .t (.s (.int .i64 (j : Int)))] [.oa [] z xs] (.ret (.oa [] z (xs.take i ++ xs.drop j))) [.gone] := by
  intro g w vs hL hR
  refine .inl ⟨hf _ _, ?_⟩
  obtain ⟨v0, r0, rfl, hv0, hR⟩ := hR.cons_inv
  obtain ⟨v1, r1, rfl, hv1, hR⟩ := hR.cons_inv
  obtain ⟨v2, r2, rfl, hv2, hR⟩ := hR.cons_inv
  obtain rfl := hR.nil_inv
  obtain rfl := hv1.s_inv
  obtain rfl := hv2.s_inv
  have hl0 : lookB (named [.gone] [.oa [] z xs]) CB = some (.oa [] z xs) := rfl
  obtain ⟨hd0, hβ0, hb0⟩ := hL.bx _ _ hl0
  have hne : xs ≠ [] := fun e => by subst e; simp at hj; omega
  obtain ⟨b, o, c, cur, ty, fl, A, rfl, hE, hb, hd, hs, h1, _, hc, hA, hq, hF⟩ := hb0.els.resolve_left (fun ⟨_, e, _⟩ => hne e) |>.resolve_left (fun ⟨_, _, e, _⟩ => hne e)
  obtain rfl : v0 = .slice (some ⟨b, o, none⟩) xs.length c := by
    generalize hxl : xs.length = l at hv0
    cases hv0 with
    | sb b' o' z' c' k lo n hk _ _ => rw [hβ0] at hk; cases hk; simp
    | sbe a' q' b' o' z k lo hk => exact absurd (List.eq_nil_of_length_eq_zero hxl) hne
    | sb0 z c k hk => exact absurd (List.eq_nil_of_length_eq_zero hxl) hne
  refine Calls.mono (hr w b o xs.length c i j fl cur ty hij hj hc.1 hc.2.1 hc.2.2 hE.len hE.one hb hs h1 hq) ?_
  rintro e w' ⟨cur', rfl, hb', hbel, hsz', h1', hq'⟩
  have hbφ : g.φ CB b := (hF b).2 (.inl rfl)
  have hAφ : ∀ i j x, A i j x → g.φ CB x := fun i j x hx => (hF x).2 (.inr ⟨i, j, hx⟩)
  have hAlt : ∀ i j x, A i j x → x < w.heap.size := hE.lt
  have hAk : ∀ i j, Keep g.D g.D w w' (A i j) := fun i j x hx => ⟨hbel.block x (hAlt i j x hx) fun e => hA i j x hx e, fun _ => rfl⟩
  have hE' := hE.keep (Dm.le_refl _) (fun k b h => h) hAk
  have hE2 := (hE'.take i).append (hE'.drop j) (fun i1 j1 i' j' x h h' => by
    have := hE.dis _ _ _ _ x h.2 h'
    omega)
  have hDw : g.D.inW w' := fun b' j u hu => by
    have hlt := Dm.inW_lt hL.dw hu
    have hne : b' ≠ b := fun h => by subst h; rw [hd j] at hu; cases hu
    have := hL.dw b' j u hu
    rw [World.cell?_of_block (a := ⟨b', j, none⟩) (hbel.block b' hlt hne)]
    exact this
  have hlen : (xs.take i ++ xs.drop j).length = i + (xs.length - j) := by simp; omega
  have key : ∀ i1 j1 x, (if i1 < (xs.take i).length then (fun x => i1 < i ∧ A i1 j1 x) else A (j + (i1 - (xs.take i).length)) j1) x → ∃ i j, A i j x := by
    intro i1 j1 x hx
    split at hx
    · exact ⟨_, _, hx.2⟩
    · exact ⟨_, _, hx⟩
  have hown := Els.own (D := g.D) rfl hE2 (b := b) (o := o) (c := c) (cur := cur') (ty := ty) hb' hd hsz' h1' h0 ⟨by rw [hlen]; have := hc.1; omega, by rw [hlen]; have := hc.2.1; omega, hc.2.2⟩ (fun i1 j1 x hx => by obtain ⟨i, j, h⟩ := key i1 j1 x hx; exact hA i j x h) hq' (F := fun x => x = b ∨ ∃ i1 j, _) (fun x => Iff.rfl)
  rw [hlen] at hown
  have hlx0 : ∀ x, g.φ CB x → LX g [.gone] [.oa [] z xs] x := fun x h => ⟨CB, _, hl0, by decide, h⟩
  refine ⟨g, ?_, _, _, rfl, .own _ _ _ rfl hown, fun b' hb => ?_, fun i m b hm => ?_⟩
  · exact { D := Dm.le_refl _, inW := hDw, β := fun _ _ => rfl, box := fun i m hm => (by rcases i with _ | i <;> simp at hm), src := fun i m b hm => (by rcases i with _ | i <;> simp at hm),
            dis := fun i i' m m' b hm => (by rcases i with _ | i <;> simp at hm), dnew := fun b j u h => .inl h,
            below := ⟨hbel.os, hbel.tape, hbel.output, hbel.size, fun k hk hn => hbel.block k hk fun h => hn (hlx0 k (h ▸ hbφ))⟩ }
  · rcases hb with rfl | ⟨i1, j1, hx⟩
    · exact .inr (hlx0 _ hbφ)
    · obtain ⟨i, j, h⟩ := key i1 j1 b' hx
      exact .inr (hlx0 _ (hAφ i j b' h))
  · rcases i with _ | i <;> simp at hm
theorem del_raw : DelRaw Tryz.prog 58 5 := by
 intro w b o n c i j fl cur ty hij hjn hnc hn48 hcm hfl hf1 hb hsz h1 hq
 obtain ⟨i0, hi0, hz0, hs0, hb0⟩ := i27
 have hcm' : c ≤ 9223372036854775807 := by unfold maxLen at hcm; omega
 have hdl : (fl.drop (j * 5)).length = (n - j) * 5 := by rw [List.length_drop]; omega
 have hfit1 : o + i * 5 + (fl.drop (j * 5)).length ≤ cur.size := by omega
 have hs1 := over_size hfit1
 have hfcell : ∀ q u, fl[q]? = some u → w.drew.cell? ⟨b, o + q, none⟩ = some u := fun q u h => by
  show w.cell? _ = _
  rw [cell_of_heap hb]; exact hq q u h
 obtain ⟨A, hA, hA'⟩ : ∃ A : Nat × Nat, (if c = j then some (⟨b, o, none⟩ : Addr) else some ⟨b, o + j * 5, none⟩) = some ⟨A.1, A.2, none⟩ ∧ ∀ q u, (fl.drop (j * 5))[q]? = some u → w.drew.cell? ⟨A.1, A.2 + q, none⟩ = some u := by
  by_cases h : c = j
  ·refine ⟨(b, o), by simp [h], fun q u hu => ?_⟩
   have := (List.getElem?_eq_some_iff.1 hu).1
   omega
  ·refine ⟨(b, o + j * 5), by simp [h], fun q u hu => ?_⟩
   rw [List.getElem?_drop] at hu
   have := hfcell _ u hu
   rw [← Nat.add_assoc] at this
   exact this
 have hbD : w.drew.heap[b]? = some (.cells cur ty (0, 0)) := hb
 have hrun : ∀ ty', (Builtin.append_ #[25, 25] ty' #[.slice (some ⟨b, o, none⟩) i c, .slice (some ⟨A.1, A.2, none⟩) (n - j) (c - j)]).run Tryz.prog w.drew = .ok (.slice (some ⟨b, o, none⟩) (i + (n - j)) c) (w.drew.setRow b (over cur (o + i * 5) (fl.drop (j * 5)))) := fun ty' => by
  have ha := app_raw0 (P := Tryz.prog) w.drew 25 ty' 27 Tryz.underlying25 hi0 hz0 (by rw [hs0]; rfl) (by omega) zV_one (some (b, o)) i c (fl.take (i * 5)) (by rw [hs0, List.length_take]; omega) (fun e => by cases e) (by omega)
   (fun b' o' e q u hu => by
    cases e
    rw [List.getElem?_take] at hu
    split at hu
    ·exact hfcell q u hu
    ·cases hu)
   (some (A.1, A.2)) (n - j) (c - j) (fl.drop (j * 5)) (by rw [hs0]; exact hdl) (fun e => by cases e) (fun b' o' e q u hu => by cases e; exact hA' q u hu) (fun u hu => hf1 u (List.mem_of_mem_drop hu)) (by rw [hb0]; omega) (by omega)
  rcases ha with ⟨hm, h⟩ | ⟨hm, _, b', o', e, h⟩ | ⟨_, h, _⟩
  ·have e1 : fl.drop (j * 5) = [] := List.eq_nil_of_length_eq_zero (by omega)
   have e2 : over cur (o + i * 5) (fl.drop (j * 5)) = cur := by rw [e1]; simp [over]
   rw [e2, setRow_self w.drew b cur ty (0, 0) hbD, hm, Nat.add_zero]
   rw [hm] at h
   exact h
  ·cases e
   have := h cur ty hbD (by rw [hs0]; omega)
   rw [hs0] at this
   exact this
  ·omega
 have hW1 := setRow_heap w.drew b cur (over cur (o + i * 5) (fl.drop (j * 5))) ty (0, 0) hbD
 have hzs : zV.cells.size = 5 := rfl
 have hzl : (Builtin.zeroCells zV.cells (n - (i + (n - j)))).toList.length = (n - (i + (n - j))) * 5 := by rw [Array.length_toList, size_zeroCells, hzs]
 have hfit2 : o + (i + (n - j)) * 5 + (Builtin.zeroCells zV.cells (n - (i + (n - j)))).toList.length ≤ (over cur (o + i * 5) (fl.drop (j * 5))).size := by omega
 have hcl : ∀ ty', (Builtin.clear_ #[25] ty' #[.slice (some ⟨b, o + (i + (n - j)) * 5, none⟩) (n - (i + (n - j))) (c - (i + (n - j)))]).run Tryz.prog (w.drew.setRow b (over cur (o + i * 5) (fl.drop (j * 5)))) =
   .ok (.tuple #[]) ((w.drew.setRow b (over cur (o + i * 5) (fl.drop (j * 5)))).setRow b (over (over cur (o + i * 5) (fl.drop (j * 5))) (o + (i + (n - j)) * 5) (Builtin.zeroCells zV.cells (n - (i + (n - j)))).toList)) := fun ty' =>
  run_clearZ (P := Tryz.prog) _ 25 27 ty' ty zV Tryz.underlying25 Tryz.zeroValue27 b (o + (i + (n - j)) * 5) _ _ (by omega) _ hW1 (by rw [← Array.length_toList]; exact hfit2) (zeroCells_one zV_one _)
 refine Calls.mono (del_walk b o n c i j w _ ⟨A.1, A.2, none⟩ hij hjn hnc hcm' hA hrun _ hcl) ?_
 rintro e w' ⟨rfl, rfl⟩
 refine ⟨_, rfl, setRow_heap _ b _ _ ty (0, 0) hW1, ((belows_drew (fun x => x = b) w).trans (belows_row (X := fun x => x = b) _ b _ rfl)).trans (belows_row (X := fun x => x = b) _ b _ rfl), by rw [over_size hfit2, hs1]; exact hsz, over_one (over_one h1 fun u hu => hf1 u (List.mem_of_mem_drop hu)) (zeroCells_one zV_one _), fun q u hu => ?_⟩
 have hql := (List.getElem?_eq_some_iff.1 hu).1
 rw [List.length_append, hdl, List.length_take] at hql
 rw [over_get hfit2, if_pos (by omega), over_get hfit1]
 by_cases hlt : q < i * 5
 ·rw [List.getElem?_append_left (by rw [List.length_take]; omega), List.getElem?_take, if_pos hlt] at hu
  rw [if_pos (by omega)]; exact hq q u hu
 ·rw [List.getElem?_append_right (by rw [List.length_take]; omega), List.length_take] at hu
  rw [if_neg (by omega), if_pos (by omega), show o + q - (o + i * 5) = q - min (i * 5) fl.length by omega]; exact hu
theorem f58_ok (xs : List (List M)) (i j : Nat) (hij : i < j) (hj : j ≤ xs.length) :
  CallOk Tryz.prog 58 [.sb CB 5 0 xs.length, .t (.s (.int .i64 (i : Int))), .t (.s (.int .i64 (j : Int)))] [.oa [] 5 xs] (.ret (.oa [] 5 (xs.take i ++ xs.drop j))) [.gone] :=
 DelRaw.ok (by decide) (callFunc_enter Tryz.func58 (by kernel_rfl) (by kernel_rfl)) del_raw xs i j hij hj
end Go.Bm
