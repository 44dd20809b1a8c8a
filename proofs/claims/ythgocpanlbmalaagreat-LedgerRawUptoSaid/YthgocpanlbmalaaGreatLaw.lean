/- LedgerRaw returns true, whatever the state, the method number and the arguments, and its arguments read afterwards as before: where what it reads is of bulk at most 1048576. -/
import Derived.Test.YthgocpanlbmalaaGreatKn
import Derived.Test.YthgocpanlbmalaaGreatProg
import Derived.KernelRfl
import Derived.Test.YthgocpanlbmalaaGreatRows
import Derived.JoinedCond
import Derived.ProofKit
import Derived.OpenShut
set_option linter.unusedVariables false
set_option linter.unusedSimpArgs false
/- Printed by amx.py: what the program's functions come to. -/
set_option maxHeartbeats 4000000
namespace Go.Bm
open Go Go.Proofs
def m4 (a : V) (b : Int) (c : (List V)) : Bool :=
 bif m8 then
  bif (m16 a) then
   bif (m10 c) then
    bif ((m15 a) == (m17 (ByteArray.mk #[108, 101, 100, 103, 101, 114]) a)) then
     bif ((m12 a (m11 b) c).2.2 == (m13 (ByteArray.mk #[108, 101, 100, 103, 101, 114]) a (m11 b) c).2.2) then
      bif (V.same ((m12 a (m11 b) c).1) ((m13 (ByteArray.mk #[108, 101, 100, 103, 101, 114]) a (m11 b) c).1)) then
       (V.same ((m12 a (m11 b) c).2.1) ((m13 (ByteArray.mk #[108, 101, 100, 103, 101, 114]) a (m11 b) c).2.1))
      else
       false
     else
      false
    else
     false
   else
    true
  else
   true
 else
  false
theorem f4_ok (a : V) (b : Int) (c : (List V)) (hb : 0 ≤ b ∧ b < 256) : CallOk TP 4 [(VM a), (.t (.s (.int .u8 b))), (tL (V.rows c))] [] (.ret (tB (m4 a b c))) [] := by
 rcases (Bool.eq_false_or_eq_true m8).symm with h1 | h1
 ·rw [show m4 a b c = false by simp only [m4, h1, cond_true, cond_false]]
  exact co Tryz.func4 (by kernel_rfl) (show runF TP 99 Tryz.f4 [(VM a), (.t (.s (.int .u8 b))), (tL (V.rows c))] [] [] [rg [1, 2, 3] [3], .reg [(rr (tB m8))] [] [1, 2, 3, 14] [3], b1 [] [], rg [6] []] = some ⟨.ret (tB false), [], _, [_]⟩ by kernel_rfl) (pc (not_tt h1) pn) (cc (f8_ok ) cn)
 ·cases h2 : (m16 a)
  ·rw [show m4 a b c = true by simp only [m4, h1, h2, cond_true, cond_false]]
   exact co Tryz.func4 (by kernel_rfl) (show runF TP 99 Tryz.f4 [(VM a), (.t (.s (.int .u8 b))), (tL (V.rows c))] [] [] [rg [1, 2, 3] [3], .reg [(rr (tB m8))] [] [1, 2, 3, 14] [3], b0 [1, 2, 3] [3], .reg [(rr (tB (m16 a))), .bit true] [] [1, 2, 3, 22] [3], b1 [] [], rg [6] []] = some ⟨.ret (tB true), [], _, [_, _, true = true]⟩ by kernel_rfl) (pc (not_ff h1) (pc (not_tt h2) (pc rfl pn))) (cc (f8_ok ) (cc (f16_ok a) cn))
  ·cases h3 : (m10 c)
   ·rw [show m4 a b c = true by simp only [m4, h1, h2, h3, cond_true, cond_false]]
    exact co Tryz.func4 (by kernel_rfl) (show runF TP 99 Tryz.f4 [(VM a), (.t (.s (.int .u8 b))), (tL (V.rows c))] [] [] [rg [1, 2, 3] [3], .reg [(rr (tB m8))] [] [1, 2, 3, 14] [3], b0 [1, 2, 3] [3], .reg [(rr (tB (m16 a))), .bit false, (rr (tB (m10 c)))] [] [1, 2, 3, 22] [3], b1 [] [], rg [6] []] = some ⟨.ret (tB true), [], _, [_, _, _]⟩ by kernel_rfl) (pc (not_ff h1) (pc (not_ff h2) (pc (not_tt h3) pn))) (cc (f8_ok ) (cc (f16_ok a) (cc (f10_ok c) cn)))
   ·cases h4 : ((m15 a) == (m17 (ByteArray.mk #[108, 101, 100, 103, 101, 114]) a))
    ·rw [show m4 a b c = false by simp only [m4, h1, h2, h3, h4, cond_true, cond_false]]
     exact co Tryz.func4 (by kernel_rfl) (show runF TP 99 Tryz.f4 [(VM a), (.t (.s (.int .u8 b))), (tL (V.rows c))] [] [] [rg [1, 2, 3] [3], .reg [(rr (tB m8))] [] [1, 2, 3, 14] [3], b0 [1, 2, 3] [3], .reg [(rr (tB (m16 a))), .bit false, (rr (tB (m10 c)))] [] [1, 2, 3, 22] [3], b0 [1, 2, 3] [3], .drw [[], [(rr (tB (m15 a)))], [], [(rr (tB (m17 (ByteArray.mk #[108, 101, 100, 103, 101, 114]) a)))], []] [] [1, 2, 3, 27] [3], b1 [] [], rg [6] []] = some ⟨.ret (tB false), [], _, [_, _, _, _]⟩ by kernel_rfl) (pc (not_ff h1) (pc (not_ff h2) (pc (not_ff h3) (pc (not_tt h4) pn)))) (cc (f8_ok ) (cc (f16_ok a) (cc (f10_ok c) (cc (f15_ok a) (cc (f17_ok (ByteArray.mk #[108, 101, 100, 103, 101, 114]) a (by first | assumption | exact lgh)) cn)))))
    ·cases h5 : ((m12 a (m11 b) c).2.2 == (m13 (ByteArray.mk #[108, 101, 100, 103, 101, 114]) a (m11 b) c).2.2)
     ·rw [show m4 a b c = false by simp only [m4, h1, h2, h3, h4, h5, cond_true, cond_false]]
      exact co Tryz.func4 (by kernel_rfl) (show runF TP 99 Tryz.f4 [(VM a), (.t (.s (.int .u8 b))), (tL (V.rows c))] [] [] [rg [1, 2, 3] [3], .reg [(rr (tB m8))] [] [1, 2, 3, 14] [3], b0 [1, 2, 3] [3], .reg [(rr (tB (m16 a))), .bit false, (rr (tB (m10 c)))] [] [1, 2, 3, 22] [3], b0 [1, 2, 3] [3], .drw [[], [(rr (tB (m15 a)))], [], [(rr (tB (m17 (ByteArray.mk #[108, 101, 100, 103, 101, 114]) a)))], []] [] [1, 2, 3, 27] [3], b0 [1, 2, 3] [3], .drw [[], [], [(rr (tS (m11 b)))], [], [(rr (.tup [(VM ((m12 a (m11 b) c).1)), (VM ((m12 a (m11 b) c).2.1)), (tI (m12 a (m11 b) c).2.2)]))], [], [], [], [], [], [], [], [], []] [] [1, 2, 3, 7, 8, 9] [3, 7, 8], .drw [[], [], [(rr (tS (m11 b)))], [], [(rr (.tup [(VM ((m13 (ByteArray.mk #[108, 101, 100, 103, 101, 114]) a (m11 b) c).1)), (VM ((m13 (ByteArray.mk #[108, 101, 100, 103, 101, 114]) a (m11 b) c).2.1)), (tI (m13 (ByteArray.mk #[108, 101, 100, 103, 101, 114]) a (m11 b) c).2.2)]))], [], [], [], [], [], [], [], [], []] [] [7, 8, 9, 10, 11, 12] [7, 8, 10, 11], .reg [.bit false, .bit false] [] [6] []] = some ⟨.ret (tB false), [], _, [_, _, _, _, _, false = false]⟩ by kernel_rfl) (pc (not_ff h1) (pc (not_ff h2) (pc (not_ff h3) (pc (not_ff h4) (pc h5 (pc rfl pn)))))) (cc (f8_ok ) (cc (f16_ok a) (cc (f10_ok c) (cc (f15_ok a) (cc (f17_ok (ByteArray.mk #[108, 101, 100, 103, 101, 114]) a (by first | assumption | exact lgh)) (cc (f11_ok b (by assumption)) (cc (f12_ok a (m11 b) c) (cc (f11_ok b (by assumption)) (cc (f13_ok (ByteArray.mk #[108, 101, 100, 103, 101, 114]) a (m11 b) c lgh (no_steps _) (fun h1 h2 => p39_of h1 h2)) cn)))))))))
     ·cases h6 : (V.same ((m12 a (m11 b) c).1) ((m13 (ByteArray.mk #[108, 101, 100, 103, 101, 114]) a (m11 b) c).1))
      ·rw [show m4 a b c = false by simp only [m4, h1, h2, h3, h4, h5, h6, cond_true, cond_false]]
       exact co Tryz.func4 (by kernel_rfl) (show runF TP 99 Tryz.f4 [(VM a), (.t (.s (.int .u8 b))), (tL (V.rows c))] [] [] [rg [1, 2, 3] [3], .reg [(rr (tB m8))] [] [1, 2, 3, 14] [3], b0 [1, 2, 3] [3], .reg [(rr (tB (m16 a))), .bit false, (rr (tB (m10 c)))] [] [1, 2, 3, 22] [3], b0 [1, 2, 3] [3], .drw [[], [(rr (tB (m15 a)))], [], [(rr (tB (m17 (ByteArray.mk #[108, 101, 100, 103, 101, 114]) a)))], []] [] [1, 2, 3, 27] [3], b0 [1, 2, 3] [3], .drw [[], [], [(rr (tS (m11 b)))], [], [(rr (.tup [(VM ((m12 a (m11 b) c).1)), (VM ((m12 a (m11 b) c).2.1)), (tI (m12 a (m11 b) c).2.2)]))], [], [], [], [], [], [], [], [], []] [] [1, 2, 3, 7, 8, 9] [3, 7, 8], .drw [[], [], [(rr (tS (m11 b)))], [], [(rr (.tup [(VM ((m13 (ByteArray.mk #[108, 101, 100, 103, 101, 114]) a (m11 b) c).1)), (VM ((m13 (ByteArray.mk #[108, 101, 100, 103, 101, 114]) a (m11 b) c).2.1)), (tI (m13 (ByteArray.mk #[108, 101, 100, 103, 101, 114]) a (m11 b) c).2.2)]))], [], [], [], [], [], [], [], [], []] [] [7, 8, 9, 10, 11, 12] [7, 8, 10, 11], .reg [.bit true, (rr (tB (V.same ((m12 a (m11 b) c).1) ((m13 (ByteArray.mk #[108, 101, 100, 103, 101, 114]) a (m11 b) c).1)))), .bit false] [] [6] []] = some ⟨.ret (tB false), [], _, [_, _, _, _, _, _]⟩ by kernel_rfl) (pc (not_ff h1) (pc (not_ff h2) (pc (not_ff h3) (pc (not_ff h4) (pc h5 (pc h6 pn)))))) (cc (f8_ok ) (cc (f16_ok a) (cc (f10_ok c) (cc (f15_ok a) (cc (f17_ok (ByteArray.mk #[108, 101, 100, 103, 101, 114]) a (by first | assumption | exact lgh)) (cc (f11_ok b (by assumption)) (cc (f12_ok a (m11 b) c) (cc (f11_ok b (by assumption)) (cc (f13_ok (ByteArray.mk #[108, 101, 100, 103, 101, 114]) a (m11 b) c lgh (no_steps _) (fun h1 h2 => p39_of h1 h2)) (cc (f14_ok ((m12 a (m11 b) c).1) ((m13 (ByteArray.mk #[108, 101, 100, 103, 101, 114]) a (m11 b) c).1)) cn))))))))))
      ·rw [show m4 a b c = (V.same ((m12 a (m11 b) c).2.1) ((m13 (ByteArray.mk #[108, 101, 100, 103, 101, 114]) a (m11 b) c).2.1)) by simp only [m4, h1, h2, h3, h4, h5, h6, cond_true, cond_false]]
       exact co Tryz.func4 (by kernel_rfl) (show runF TP 99 Tryz.f4 [(VM a), (.t (.s (.int .u8 b))), (tL (V.rows c))] [] [] [rg [1, 2, 3] [3], .reg [(rr (tB m8))] [] [1, 2, 3, 14] [3], b0 [1, 2, 3] [3], .reg [(rr (tB (m16 a))), .bit false, (rr (tB (m10 c)))] [] [1, 2, 3, 22] [3], b0 [1, 2, 3] [3], .drw [[], [(rr (tB (m15 a)))], [], [(rr (tB (m17 (ByteArray.mk #[108, 101, 100, 103, 101, 114]) a)))], []] [] [1, 2, 3, 27] [3], b0 [1, 2, 3] [3], .drw [[], [], [(rr (tS (m11 b)))], [], [(rr (.tup [(VM ((m12 a (m11 b) c).1)), (VM ((m12 a (m11 b) c).2.1)), (tI (m12 a (m11 b) c).2.2)]))], [], [], [], [], [], [], [], [], []] [] [1, 2, 3, 7, 8, 9] [3, 7, 8], .drw [[], [], [(rr (tS (m11 b)))], [], [(rr (.tup [(VM ((m13 (ByteArray.mk #[108, 101, 100, 103, 101, 114]) a (m11 b) c).1)), (VM ((m13 (ByteArray.mk #[108, 101, 100, 103, 101, 114]) a (m11 b) c).2.1)), (tI (m13 (ByteArray.mk #[108, 101, 100, 103, 101, 114]) a (m11 b) c).2.2)]))], [], [], [], [], [], [], [], [], []] [] [7, 8, 9, 10, 11, 12] [7, 8, 10, 11], .reg [.bit true, (rr (tB (V.same ((m12 a (m11 b) c).1) ((m13 (ByteArray.mk #[108, 101, 100, 103, 101, 114]) a (m11 b) c).1)))), .bit true, (rr (tB (V.same ((m12 a (m11 b) c).2.1) ((m13 (ByteArray.mk #[108, 101, 100, 103, 101, 114]) a (m11 b) c).2.1))))] [] [6] []] = some ⟨.ret (tB (V.same ((m12 a (m11 b) c).2.1) ((m13 (ByteArray.mk #[108, 101, 100, 103, 101, 114]) a (m11 b) c).2.1))), [], _, [_, _, _, _, _, _]⟩ by kernel_rfl) (pc (not_ff h1) (pc (not_ff h2) (pc (not_ff h3) (pc (not_ff h4) (pc h5 (pc h6 pn)))))) (cc (f8_ok ) (cc (f16_ok a) (cc (f10_ok c) (cc (f15_ok a) (cc (f17_ok (ByteArray.mk #[108, 101, 100, 103, 101, 114]) a (by first | assumption | exact lgh)) (cc (f11_ok b (by assumption)) (cc (f12_ok a (m11 b) c) (cc (f11_ok b (by assumption)) (cc (f13_ok (ByteArray.mk #[108, 101, 100, 103, 101, 114]) a (m11 b) c lgh (no_steps _) (fun h1 h2 => p39_of h1 h2)) (cc (f14_ok ((m12 a (m11 b) c).1) ((m13 (ByteArray.mk #[108, 101, 100, 103, 101, 114]) a (m11 b) c).1)) (cc (f14_ok ((m12 a (m11 b) c).2.1) ((m13 (ByteArray.mk #[108, 101, 100, 103, 101, 114]) a (m11 b) c).2.1)) cn)))))))))))
end Go.Bm
/- A value is the same as itself; the example holds. -/
set_option maxHeartbeats 1000000
namespace Go.Bm
open Go Go.Proofs
theorem sames_self : ∀ {l : List V}, (∀ x ∈ l, V.same x x = true) → V.sames l l = true
 | [], _ => rfl
 | v :: r, h => by
  simp only [V.sames, List.getElem?_cons_zero, Option.getD_some, List.drop_succ_cons, List.drop_zero, h v (by simp), Bool.true_and]
  exact sames_self fun x hx => h x (by simp [hx])
theorem same_self (v : V) : V.same v v = true := by
 refine V.induct (p := fun v => V.same v v = true) ?_ v
 intro v ih
 obtain ⟨k, i, f, s, l⟩ := v
 change ∀ x ∈ l, _ at ih
 have := sames_self ih
 simp [V.same, V.k, V.i, V.f, V.s, V.l, this]
theorem m8_true : m8 = true := by kernel_rfl
end Go.Bm
/- From what a statement reads to what a call is given. -/
set_option maxHeartbeats 1000000
namespace Go.Bm
open Go Go.Proofs Go.Proofs.YthgocpanlbmalaaGreat Go.ChangeShapes Go.RowKit
def gh0 (W : World) : Gh := ⟨snap W, fun _ => none, fun _ _ => False⟩
theorem linv0 (W : World) : LInv (gh0 W) (named [] []) W := ⟨(fun k o h => by cases h), (fun k k' o o' b h => by cases h), fun b j v h => h⟩
theorem calls_true {P : Program} {f : FuncId} {fn : Func} {ms : List M} (hf : P.funcs[f]? = some fn) (hb : fn.body.isSome = true) (hn : (fn.name == "runtime.NumGoroutine") = false)
  (h : CallOk P f ms [] (.ret (.t (.s (.bool true)))) []) {W : World} {vs : List Value} (hr : RepL (gh0 W) vs ms) :
  Calls P f vs.toArray W fun e W' => e = .returned (.bool true) ∧ Below W.heap.size W W' := by
 obtain ⟨c, hb⟩ := Option.isSome_iff_exists.1 hb
 rcases h (gh0 W) W vs (linv0 W) hr with ⟨_, hc⟩ | ⟨v, w', he, _⟩
 ·refine hc.mono fun e W' hcame => ?_
  obtain ⟨g', hg, v, F, rfl, hrep, _⟩ := hcame
  have hv : v = .bool true := by
   cases hrep with
   | leaf _ _ _ h _ => cases h with | t _ _ h => cases h; rfl
   | own _ _ _ ho _ => simp [isOwned] at ho
  subst hv
  have hbl := hg.below
  exact ⟨rfl, hbl.os, hbl.tape, hbl.output, hbl.size, fun k hk => hbl.block k hk fun hx => by
   obtain ⟨k', o, hko, _⟩ := hx
   cases hko⟩
 ·exfalso
  have hn' : ¬ fn.name = "runtime.NumGoroutine" := by simpa using hn
  simp [callFunc, hf, hn', hb] at he
def RepCs (D : Dm) (cs : List Value) (ts : List T) : Prop := cs.length = ts.length ∧ ∀ (j : Nat) (c : Value) (t : T), cs[j]? = some c → ts[j]? = some t → RepT D c t
theorem cells_get {W : World} {a : Addr} {n : Nat} {cs : List Value} (h : W.cells? 0 a n = some cs) : cs.length = n ∧ ∀ j, j < n → W.cell? (a.add j) = cs[j]? := by
 unfold World.cells? at h
 rw [if_pos (Nat.zero_le _)] at h
 exact ⟨by simpa using mapM_some_length h, fun j hj => mapM_some_get h j j (by simp [hj])⟩
theorem trod_float {H : Type} {enc : TypeId × Value → H} {P : Program} {w : World} {base : Nat} {spare : Nat → Bool} {held : Bool} {fuel : Nat} {t : TypeId} {cs : List Value} {x : DataW H × List MemPlace} {k : FloatKind}
  (ht : P.underlying t = some (.float k)) (h : DataW.trod enc P w base spare held fuel t cs = some x) : ∃ b, cs = [.float k b] := by
 cases fuel with
 | zero => simp [DataW.trod] at h
 | succ n =>
  unfold DataW.trod at h
  rw [ht] at h
  split at h <;> simp_all
theorem list_of {α : Type} {Q : Nat → α → Prop} : ∀ n : Nat, (∀ i, i < n → ∃ v, Q i v) → ∃ l : List α, l.length = n ∧ ∀ (i : Nat) (v : α), l[i]? = some v → Q i v
 | 0, _ => ⟨[], rfl, fun i v h => by simp at h⟩
 | n + 1, h => by
  obtain ⟨l, hl, hq⟩ := list_of n fun i hi => h i (by omega)
  obtain ⟨v, hv⟩ := h n (by omega)
  refine ⟨l ++ [v], by simp [hl], fun i u hu => ?_⟩
  by_cases hi : i < n
  ·rw [List.getElem?_append_left (by omega)] at hu; exact hq i u hu
  ·have : i = n := by
    have := (List.getElem?_eq_some_iff.1 hu).1
    simp [hl] at this; omega
   subst this
   rw [List.getElem?_append_right (by omega)] at hu
   simp [hl] at hu
   subst hu
   exact hv
theorem bulk_mem {H : Type} {d : DataW H} : ∀ {l : List (DataW H)}, d ∈ l → Rows.uptoBulk d ≤ Rows.uptoBulkAll l
 | x :: r, h => by
  simp only [Rows.uptoBulkAll]
  rcases List.mem_cons.1 h with rfl | h
  ·omega
  ·have := bulk_mem h; omega
theorem bulk_pos {H : Type} (d : DataW H) : 1 ≤ Rows.uptoBulk d := by
 cases d with
 | lit l => cases l <;> simp [Rows.uptoBulk]
 | _ => simp [Rows.uptoBulk]
theorem bulk_len {H : Type} : ∀ (l : List (DataW H)), l.length ≤ Rows.uptoBulkAll l
 | [] => by simp [Rows.uptoBulkAll]
 | x :: r => by
  have := bulk_pos x
  have := bulk_len r
  simp only [Rows.uptoBulkAll, List.length_cons]; omega
def maxB : Nat := 1048576
theorem open_sl {H : Type} {enc : TypeId × Value → H} {P : Program} {W : World} {t e : TypeId} {z : Nat} {fuel : Nat} {cs : List Value} {x : DataW H × List MemPlace}
  (ht : P.underlying t = some (.slice e)) (hz : P.cellsOf e = z) (h0 : 0 < z) {α : Type} {cells : α → List T}
  (hel : ∀ (n : Nat) (cs : List Value) (x : DataW H × List MemPlace), n < fuel → DataW.trod enc P W 0 (fun _ => true) true n e cs = some x → Rows.uptoBulk x.1 ≤ maxB → ∃ v : α, RepCs (snap W) cs (cells v))
  (h : DataW.trod enc P W 0 (fun _ => true) true fuel t cs = some x) (hb : Rows.uptoBulk x.1 ≤ maxB) : ∃ (v : Value) (l : List α), cs = [v] ∧ RepT (snap W) v (.sl (l.map cells)) ∧ l.length ≤ maxB := by
 rcases DataW.trod_slice ht h with ⟨rfl, rfl⟩ | ⟨a, len, cap, elems, rest, n, rfl, rfl, rfl, _, hlc, _, hlen, he, hr, _⟩
 ·exact ⟨_, [], rfl, .nil, Nat.zero_le _⟩
 ·rw [hz] at he hr
  have hlb : elems.length ≤ maxB ∧ ∀ d ∈ elems, Rows.uptoBulk d.1 ≤ maxB := by
   simp only [Rows.uptoBulk] at hb
   refine ⟨?_, fun d hd => ?_⟩
   ·have := bulk_len (elems.map (·.1))
    rw [List.length_map] at this
    omega
   ·have := bulk_mem (List.mem_map_of_mem (f := (·.1)) hd)
    omega
  have hall : ∀ i, i < len → ∃ v : α, ∃ ci, W.cells? 0 (a.add (i * z)) z = some ci ∧ RepCs (snap W) ci (cells v) := fun i hi => by
   have h1 := he i hi
   have h2 : elems[i]? = some elems[i] := List.getElem?_eq_getElem (by omega)
   rw [h2] at h1
   obtain ⟨ci, hci, htr⟩ := Option.bind_eq_some_iff.1 h1
   obtain ⟨v, hv⟩ := hel n ci _ (Nat.lt_succ_self n) htr (hlb.2 _ (List.getElem_mem _))
   exact ⟨v, ci, hci, hv⟩
  obtain ⟨l, hl, hq⟩ := list_of len hall
  refine ⟨_, l, rfl, ?_, by omega⟩
  have hspot : 0 < cap → a.spot = none := fun hcap => by
   have hc : ∃ ci, W.cells? 0 a z = some ci := by
    by_cases hl0 : 0 < len
    ·obtain ⟨_, ci, hci, _⟩ := hall 0 hl0
     rw [Nat.zero_mul] at hci
     exact ⟨ci, by simpa [Addr.add] using hci⟩
    ·have h3 := (hr rfl).2 0 (by omega)
     have h4 := (hr rfl).1
     have h5 : rest[0]? = some rest[0] := List.getElem?_eq_getElem (by omega)
     rw [h5] at h3
     obtain ⟨ci, hci, _⟩ := Option.bind_eq_some_iff.1 h3
     have hl00 : len = 0 := by omega
     rw [hl00] at hci
     exact ⟨ci, by simpa [Addr.add] using hci⟩
   obtain ⟨ci, hci⟩ := hc
   obtain ⟨h6, h7⟩ := cells_get hci
   have h8 := h7 0 h0
   have h9 : ci[0]? = some ci[0] := List.getElem?_eq_getElem (by omega)
   rw [h9] at h8
   cases hs : a.spot with
   | none => rfl
   | some s =>
    exfalso
    simp only [Addr.add, if_true, World.cell?, hs, Option.isSome_some, if_true] at h8
    split at h8 <;> cases h8
  by_cases hcap : 0 < cap
  ·have hs := hspot hcap
   obtain ⟨b, off, sp⟩ := a
   simp only at hs
   subst hs
   have hadd : ∀ (i j : Nat), ((⟨b, off, none⟩ : Addr).add i).add j = ⟨b, off + (i + j), none⟩ := fun i j => by
    simp only [Addr.add]
    by_cases h1 : i = 0 <;> by_cases h2 : j = 0 <;> simp [h1, h2] <;> omega
   refine .sl b off len cap z (l.map cells) (fun i j => (W.cell? ⟨b, off + (i * z + j), none⟩).getD undef) (by simp [hl]) ⟨hlc, by unfold maxB at hlb; omega⟩ (fun i ts hts => ?_) (fun i j hi hj => ?_) (fun i j ts t hts ht => ?_)
   ·rw [List.getElem?_map] at hts
    cases hv : l[i]? with
    | none => rw [hv] at hts; cases hts
    | some v =>
     rw [hv] at hts
     cases hts
     obtain ⟨ci, hci, hrep⟩ := hq i v hv
     rw [← hrep.1]; exact (cells_get hci).1
   ·have hv : l[i]? = some l[i] := List.getElem?_eq_getElem (by omega)
    obtain ⟨ci, hci, hrep⟩ := hq i _ hv
    obtain ⟨h6, h7⟩ := cells_get hci
    have h8 := h7 j hj
    rw [hadd] at h8
    show W.cell? ⟨b, off + (i * z + j), none⟩ = _
    have h9 : ci[j]? = some ci[j] := List.getElem?_eq_getElem (by omega)
    rw [h8, h9]; rfl
   ·rw [List.getElem?_map] at hts
    cases hv : l[i]? with
    | none => rw [hv] at hts; cases hts
    | some v =>
     rw [hv] at hts
     cases hts
     obtain ⟨ci, hci, hrep⟩ := hq i v hv
     obtain ⟨h6, h7⟩ := cells_get hci
     have hj : j < z := by rw [← h6, hrep.1]; exact (List.getElem?_eq_some_iff.1 ht).1
     have h8 := h7 j hj
     rw [hadd] at h8
     have h9 : ci[j]? = some ci[j] := List.getElem?_eq_getElem (by omega)
     rw [h8, h9]
     exact hrep.2 j _ t h9 ht
  ·have h1 : cap = 0 := by omega
   have h2 : len = 0 := by omega
   subst h1; subst h2
   have : l = [] := List.eq_nil_of_length_eq_zero hl
   subst this
   exact .spot a
theorem cells27 : Tryz.prog.cellsOf 27 = 5 := by kernel_rfl
theorem cells3 : Tryz.prog.cellsOf 3 = 1 := by kernel_rfl
theorem cells2 : Tryz.prog.cellsOf 2 = 1 := by kernel_rfl
theorem cells24 : Tryz.prog.cellsOf 24 = 1 := by kernel_rfl
theorem cells9 : Tryz.prog.cellsOf 9 = 1 := by kernel_rfl
theorem cells25 : Tryz.prog.cellsOf 25 = 1 := by kernel_rfl
set_option maxRecDepth 100000 in
theorem open_V {H : Type} {enc : TypeId × Value → H} {W : World} (fuel : Nat) : ∀ (cs : List Value) (x : DataW H × List MemPlace), DataW.trod enc Tryz.prog W 0 (fun _ => true) true fuel 27 cs = some x → Rows.uptoBulk x.1 ≤ maxB →
  ∃ v : V, RepCs (snap W) cs v.cells := by
 induction fuel using Nat.strongRecOn with
 | ind fuel ih =>
  intro cs x h hb
  obtain ⟨xs, n, rfl, rfl, hl, hxs, hf⟩ := DataW.trod_struct Tryz.underlying27 h
  rw [cells27] at hl
  match cs, hl with
  | [c0, c1, c2, c3, c4], _ =>
  match xs, hxs with
  | [x0, x1, x2, x3, x4], _ =>
  have f0 : DataW.trod enc Tryz.prog W 0 (fun _ => true) true n 3 (([c0, c1, c2, c3, c4].drop 0).take (Tryz.prog.cellsOf 3)) = some x0 := hf 0 _ rfl
  rw [cells3] at f0
  have f1 : DataW.trod enc Tryz.prog W 0 (fun _ => true) true n 2 (([c0, c1, c2, c3, c4].drop 1).take (Tryz.prog.cellsOf 2)) = some x1 := hf 1 _ rfl
  rw [cells2] at f1
  have f2 : DataW.trod enc Tryz.prog W 0 (fun _ => true) true n 24 (([c0, c1, c2, c3, c4].drop 2).take (Tryz.prog.cellsOf 24)) = some x2 := hf 2 _ rfl
  rw [cells24] at f2
  have f3 : DataW.trod enc Tryz.prog W 0 (fun _ => true) true n 9 (([c0, c1, c2, c3, c4].drop 3).take (Tryz.prog.cellsOf 9)) = some x3 := hf 3 _ rfl
  rw [cells9] at f3
  have f4 : DataW.trod enc Tryz.prog W 0 (fun _ => true) true n 25 (([c0, c1, c2, c3, c4].drop 4).take (Tryz.prog.cellsOf 25)) = some x4 := hf 4 _ rfl
  rw [cells25] at f4
  obtain ⟨k, e0, _⟩ := DataW.trod_int Tryz.underlying3 f0
  obtain ⟨i, e1, _⟩ := DataW.trod_int Tryz.underlying2 f1
  obtain ⟨b, e2⟩ := trod_float Tryz.underlying24 f2
  obtain ⟨s, e3, _⟩ := DataW.trod_string Tryz.underlying9 f3
  simp only [Rows.uptoBulk, List.map_cons, List.map_nil, Rows.uptoBulkAll] at hb
  obtain ⟨v4, l, e4, hr, _⟩ := open_sl (α := V) (cells := V.cells) Tryz.underlying25 cells27 (by decide) (fun m cs x hm => ih m (by omega) cs x) f4 (by unfold maxB at *; omega)
  simp only [List.drop_zero, List.drop_succ_cons, List.take_succ_cons, List.take_zero, List.cons.injEq, and_true] at e0 e1 e2 e3 e4
  subst e0; subst e1; subst e2; subst e3; subst e4
  refine ⟨V.mk k i (some b) s l, rfl, fun j c t hc ht => ?_⟩
  match j, hc, ht with
  | 0, hc, ht => cases hc; cases ht; exact .s _ rfl
  | 1, hc, ht => cases hc; cases ht; exact .s _ rfl
  | 2, hc, ht => cases hc; cases ht; exact .f _
  | 3, hc, ht => cases hc; cases ht; exact .s _ rfl
  | 4, hc, ht =>
   cases hc
   simp only [V.cells, List.getElem?_cons_succ, List.getElem?_cons_zero, Option.some.injEq] at ht
   subst ht
   rw [V.rows_map]
   exact hr
  | j + 5, hc, ht => simp at hc
end Go.Bm
/- A statement, from its law's call. -/
set_option maxHeartbeats 1000000
set_option maxRecDepth 100000
namespace Go.Bm
open Go Go.Proofs Go.Proofs.YthgocpanlbmalaaGreat Go.ChangeShapes Go.RowKit Go.WideShapes Go.ChangeAt
theorem own0 : ownKnob Tryz.prog.godebug = none := by kernel_rfl
theorem laidOut0 : laidOutB Tryz.prog = true := by kernel_rfl
section
variable {H : Type} {enc : TypeId × Value → H} {W W' : World}
theorem trodAll_below {ts : List TypeId} {vs : List Value} {ds : List (DataW H)} {ps : List MemPlace} (hr : ∀ t ∈ ts, Tryz.prog.readableRec t = true ∧ t < Tryz.prog.types.size)
  (h : DataW.TrodAll enc Tryz.prog W 0 (fun _ => true) true ts vs ds ps) (hb : Below W.heap.size W W') (hlt : ∀ x ∈ ps, x.block < W.heap.size) :
  DataW.TrodAll enc Tryz.prog W' 0 (fun b => decide (b < W.heap.size)) true ts vs ds ps := by
 induction ts generalizing vs ds ps with
 | nil =>
  obtain ⟨rfl, rfl, rfl⟩ := trodAll_nil h
  exact rfl
 | cons t ts ih =>
  obtain ⟨v, vs', d, ds', p, q, rfl, rfl, rfl, h0, r0⟩ := trodAll_cons h
  have ht := hr t (List.mem_cons_self)
  exact ⟨p, q, Below.trod laidOut0 ht.1 ht.2 h0 hb (fun x hx => hlt x (List.mem_append_left _ hx)), ih (fun t' h' => hr t' (List.mem_cons_of_mem _ h')) r0 (fun x hx => hlt x (List.mem_append_right _ hx)), rfl⟩
theorem post_law {f : Func} {s : ChangeSpec} {args : Array Value} {ds gs : List (DataW H)} {before : List MemPlace} (hW : DataW.Whole enc Tryz.prog f.params.toList s.vars false W args.toList ds gs before)
  (hvars : s.vars = []) (hres : f.resultTypes = #[4]) (hfn : s.fn H (ds ++ gs) = { results := [.lit (.bool true)], args := ds }) (hread : ∀ t ∈ f.params.toList, Tryz.prog.readableRec t = true ∧ t < Tryz.prog.types.size)
  (hb : Below W.heap.size W W') : s.post enc Tryz.prog f false true false false W args (.bool true) W' := by
 have hlt := hW.lt
 have hW0 := hW
 obtain ⟨p, q, hA, hV, rfl, hfz, hnd⟩ := hW
 rw [hvars] at hV
 obtain ⟨rfl, rfl⟩ := trodVars_none hV
 refine ⟨ds, [], p ++ [], [], p, [], hW0, ?_, ?_, ?_, hb.frame _, fun h => by cases h⟩
 ·rw [hfn, hres]
  exact trodAll_cons_mk (shut_bool Tryz.underlying4 _) trodAll_mk0
 ·rw [hfn]
  exact trodAll_below hread hA hb (fun x hx => hlt x (List.mem_append_left _ hx))
 ·rw [hvars, hfn]; exact rfl
theorem rep_V {base : Nat} {v : Value} {d : DataW H} {p : List MemPlace} (hval : Value.okWide Tryz.prog W .any base 27 v) (h : DataW.Trod enc Tryz.prog W 0 (fun _ => true) true 27 v d p) (hb : Rows.uptoBulk d ≤ maxB) :
  ∃ a : V, RepM (gh0 W) v (.agg (a.cells.map .t)) := by
 obtain ⟨fuel, h⟩ := h
 obtain ⟨cs, rfl, hs⟩ := okWide_struct Tryz.underlying27 hval
 obtain ⟨a, hl, hr⟩ := open_V fuel _ _ h hb
 refine ⟨a, ?_⟩
 change cs.toList.length = _ at hl
 change ∀ j c t, cs.toList[j]? = some c → _ at hr
 have : RepM (gh0 W) (.agg cs.toList.toArray) (.agg (a.cells.map .t)) := .agg cs.toList _ (by rw [hl, List.length_map]) fun j v c hv hc => by
  rw [List.getElem?_map] at hc
  cases ht : a.cells[j]? with
  | none => rw [ht] at hc; cases hc
  | some t =>
   rw [ht] at hc
   cases hc
   exact .t _ _ (hr j v t hv ht)
 exact this
theorem rep_sl {v : Value} {d : DataW H} {p : List MemPlace} {base : Nat} (hval : Value.okWide Tryz.prog W .any base 25 v) (h : DataW.Trod enc Tryz.prog W 0 (fun _ => true) true 25 v d p) (hb : Rows.uptoBulk d ≤ maxB) :
  ∃ l : List V, RepM (gh0 W) v (.t (.sl (V.rows l))) := by
 obtain ⟨fuel, h⟩ := h
 obtain ⟨a, len, cap, rfl⟩ := okWide_slice Tryz.underlying25 hval
 obtain ⟨v', l, e, hr, _⟩ := open_sl (α := V) (cells := V.cells) Tryz.underlying25 cells27 (by decide) (fun m cs x _ => open_V m cs x) h hb
 change [Value.slice a len cap] = [v'] at e
 cases e
 exact ⟨l, .t _ _ (by rw [V.rows_map]; exact hr)⟩
theorem rep_u8 {v : Value} {d : DataW H} {p : List MemPlace} {base : Nat} (hval : Value.okWide Tryz.prog W .any base 5 v) (h : DataW.Trod enc Tryz.prog W 0 (fun _ => true) true 5 v d p) :
  ∃ n : Int, (0 ≤ n ∧ n < 256) ∧ RepM (gh0 W) v (.t (.s (.int .u8 n))) := by
 obtain ⟨n, rfl, rfl, rfl, hw⟩ := open_int Tryz.underlying5 hval h
 have := bounds_u8 hw
 exact ⟨n, ⟨this.1, by omega⟩, .t _ _ (.s _ rfl)⟩
end
end Go.Bm
/- LedgerRaw: whatever the state, whatever the call, the program and the document come to the same; where what it reads is of bulk at most 1048576. -/
set_option maxHeartbeats 1000000
set_option maxRecDepth 100000
namespace Go.Bm
open Go Go.Proofs
theorem m4_true (a : V) (b : Int) (c : List V) : m4 a b c = true := by
 unfold m4
 have h : ∀ s m l, m13 (ByteArray.mk #[108, 101, 100, 103, 101, 114]) s m l = m12 s m l := fun s m l => (do_same s m l).symm
 have h2 : m17 (ByteArray.mk #[108, 101, 100, 103, 101, 114]) a = m15 a := (right_same a _).symm
 rw [m8_true, h, h2]
 simp only [same_self, beq_self_eq_true, cond_true]
 cases m16 a <;> cases m10 c <;> rfl
theorem f4_true (a : V) (b : Int) (c : List V) (hb : 0 ≤ b ∧ b < 256) : CallOk Tryz.prog 4 [(.agg (a.cells.map .t)), (.t (.s (.int .u8 b))), (.t (.sl (V.rows c)))] [] (.ret (.t (.s (.bool true)))) [] := by
 have h := f4_ok a b c hb
 rw [m4_true] at h
 exact h
end Go.Bm
namespace Go.Proofs.YthgocpanlbmalaaGreat
open Go.ChangeShapes Go.WideShapes Go.ChangeAt Go.RowKit Go.Bm
theorem raw_contract (H : Type) (enc : TypeId × Value → H) (W : World) (base : Nat) (args : Array Value) (ds gs : List (DataW H)) (before : List MemPlace)
  (hval : ∀ (j : Nat) t v, Tryz.f4.params[j]? = some t → args[j]? = some v → Value.okWide Tryz.prog W .any base t v)
  (hW : DataW.Whole enc Tryz.prog Tryz.f4.params.toList Rows.ledgerRawSpec.vars false W args.toList ds gs before) (hk : Rows.uptoSmall H (ds ++ gs) = true) :
  Calls Tryz.prog 4 args W fun e W' => ∃ v, e = .returned v ∧ Rows.ledgerRawSpec.post enc Tryz.prog Tryz.f4 false true false false W args v W' := by
 have hW' := hW
 obtain ⟨p, q, hA0, hV, rfl, hfz, hnd⟩ := hW
 have hA : DataW.TrodAll enc Tryz.prog W 0 (fun _ => true) true Tryz.f4.params.toList args.toList ds p := hA0
 rw [Tryz.params4] at hA hval
 obtain ⟨v0, v1, v2, d0, d1, d2, p0, p1, p2, rfl, rfl, rfl, h0, h1, h2⟩ := trodAll_three hA
 obtain ⟨rfl, rfl⟩ := trodVars_none hV
 have hk' : Rows.uptoBulkAll ([d0, d1, d2] ++ []) ≤ 1048576 := by simpa [Rows.uptoSmall] using hk
 simp only [List.append_nil, Rows.uptoBulkAll] at hk'
 obtain ⟨a, ha⟩ := rep_V (hval 0 27 v0 rfl rfl) h0 (by unfold maxB; omega)
 obtain ⟨n, hn, hb⟩ := rep_u8 (hval 1 5 v1 rfl rfl) h1
 obtain ⟨l, hl⟩ := rep_sl (hval 2 25 v2 rfl rfl) h2 (by unfold maxB; omega)
 refine (calls_true (vs := [v0, v1, v2]) Tryz.func4 (by kernel_rfl) (by kernel_rfl) (f4_true a n l hn) (RepL.cons ha (RepL.cons hb (RepL.cons hl (RepL.nil _))))).mono fun e W' ⟨he, hbl⟩ => ?_
 subst he
 exact ⟨_, rfl, post_law hW' rfl rfl rfl (fun t ht => by
  rw [Tryz.params4] at ht
  simp only [List.mem_cons, List.not_mem_nil, or_false] at ht
  rcases ht with rfl | rfl | rfl <;> exact ⟨by kernel_rfl, of_decide_eq_true (by kernel_rfl)⟩) hbl⟩
theorem raw_lifted (os : Os) (started : os.Started) (H : Type) (enc : TypeId × Value → H) (F : Stop.Interp) :
  ReturnsInHanded {} Tryz.checked os 4 .any ((Rows.OpenSpec.upto Rows.ledgerRawSpec).pre6 enc Tryz.prog Tryz.f4 Rows.ledgerRawUptoRow.domain false) (((Rows.OpenSpec.upto Rows.ledgerRawSpec).at F).post enc Tryz.prog Tryz.f4 false true false false) := by
 refine returnsInHanded_of_cond (C := Tryz.checked) (s := Rows.OpenSpec.upto Rows.ledgerRawSpec) (k := Rows.uptoSmall) rfl own0 started (by kernel_rfl) Tryz.func4
  (OpenSpec.witness (enc := enc) (C := Tryz.checked) (s := Rows.OpenSpec.upto Rows.ledgerRawSpec) (k := Rows.uptoSmall) rfl false ⟨#[], #[.agg #[.int .i64 0, .int .i64 0, .float .f64 0, .string (ByteArray.mk #[]), .slice none 0 0], .int .u8 0, .slice none 0 0], []⟩ 8 (by kernel_rfl) (by kernel_rfl) (by kernel_rfl)
   (x := ([.agg [.lit (.int .i64 0), .lit (.int .i64 0), .lit (.float .f64 0), .lit (.string []), .nil], .lit (.int .u8 0), .nil], [], [])) (by kernel_rfl) rfl (by kernel_rfl)) ?_
 intro W base args ds gs before hval hW _ hk _
 exact raw_contract H enc W base args ds gs before hval hW hk
theorem raw_over : Rows.ledgerRawUptoRow.holds Tryz.pinned (Rows.OpenSpec.upto Rows.ledgerRawSpec) :=
 OpenClaim.holds_of_cond 4 Tryz.f4 rfl rfl rfl rfl rfl rfl rfl ⟨rfl, rfl, rfl, rfl, rfl⟩ rfl rfl rfl rfl rfl (by kernel_rfl) Tryz.func4 (by kernel_rfl)
  (of_decide_eq_true (by kernel_rfl)) (by unfold Func.isWrapper; first | (rw [if_pos (by decide +kernel)]; kernel_rfl) | (rw [if_neg (by decide +kernel)]; exact ⟨rfl, rfl⟩))
  (fun os started H enc _ F => raw_lifted os started H enc F)
theorem ledgerRaw_upto : Rows.LedgerRawUptoSaid := raw_over
end Go.Proofs.YthgocpanlbmalaaGreat
#print axioms Go.Proofs.YthgocpanlbmalaaGreat.ledgerRaw_upto
