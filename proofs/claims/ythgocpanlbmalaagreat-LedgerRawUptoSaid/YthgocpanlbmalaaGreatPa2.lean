import Derived.Test.YthgocpanlbmalaaGreatPa1
set_option linter.unusedVariables false
set_option linter.unusedSimpArgs false
set_option maxHeartbeats 4000000
namespace Go.Bm
open Go Go.Proofs
def m68_b0 (a : V) (x : V) (i : Nat) (s : (List V)) : (List V) :=
 (s ++ [(x.l[0]?.getD default)])
def m68 (a : V) : V :=
 (V.mk 4 0 (some 0) bE (lp2 (m68_b0 a) a.l 0 ([])))
theorem f68_ok (a : V) (hp : ∀ x ∈ a.l, 0 < x.l.length) : CallOk TP 68 [(VM a)] [] (.ret (VM (m68 a))) [] := by
 refine CallOk.short fun hsh => ?_
 rw [show m68 a = (V.mk 4 0 (some 0) bE (lp2 (m68_b0 a) a.l 0 ([]))) by simp only [m68]]
 have hlen : a.l.length ≤ 274877906944 := (V.short_of hsh.1).len
 have hl1 : W TP (bodyAt Tryz.f68 [1, 1, 0, 1, 0]) ⟨27, [(1, (.ptr 1 0)), (2, (.ptr 2 0)), (3, (.ptr 3 0)), (4, (tI 0))], [(1, .os [(tI a.k), (tI a.i), (tF a.f), (tS a.s), (tL (V.rows a.l))]), (2, .os [(tI 0), (tI 0), (tF (some 0)), (tS bE), (.tight [])]), (3, .os [(tI 4), (tI 0), (tF (some 0)), (tS bE), (.own 5024 5 [])]), (5024, .op 5 [])]⟩ (One (.exit 0) ((fun (i : Nat) (s : (List V)) => (⟨27, [(2, (.ptr 2 0)), (3, (.ptr 3 0))], [(2, .os [(tI 0), (tI 0), (tF (some 0)), (tS bE), (.tight [])]), (3, .os [(tI 4), (tI 0), (tF (some 0)), (tS bE), (.own 5024 5 (V.rows s))]), (5024, .op 5 (V.rows s))]⟩ : St)) a.l.length (lp2 (m68_b0 a) a.l 0 ([])))) := by
  refine lp2_W (e := (.exit 0)) (c := bodyAt Tryz.f68 [1, 1, 0, 1, 0, 0]) a.l (fun (i : Nat) (s : (List V)) => (⟨27, [(1, (.ptr 1 0)), (2, (.ptr 2 0)), (3, (.ptr 3 0)), (4, (tI ((i : Nat) : Int)))], [(1, .os [(tI a.k), (tI a.i), (tF a.f), (tS a.s), (tL (V.rows a.l))]), (2, .os [(tI 0), (tI 0), (tF (some 0)), (tS bE), (.tight [])]), (3, .os [(tI 4), (tI 0), (tF (some 0)), (tS bE), (.own 5024 5 (V.rows s))]), (5024, .op 5 (V.rows s))]⟩ : St)) (fun (i : Nat) (s : (List V)) => (⟨27, [(2, (.ptr 2 0)), (3, (.ptr 3 0))], [(2, .os [(tI 0), (tI 0), (tF (some 0)), (tS bE), (.tight [])]), (3, .os [(tI 4), (tI 0), (tF (some 0)), (tS bE), (.own 5024 5 (V.rows s))]), (5024, .op 5 (V.rows s))]⟩ : St)) (m68_b0 a) (fun (i : Nat) (s : (List V)) => (s.length ≤ i : Prop)) ([]) (by simp) (by kernel_rfl) (by simp) ?_ ?_
  ·intro s hI
   exact wo (show run TP 99 (bodyAt Tryz.f68 [1, 1, 0, 1, 0, 0]) ⟨27, [(1, (.ptr 1 0)), (2, (.ptr 2 0)), (3, (.ptr 3 0)), (4, (tI ((a.l.length : Nat) : Int)))], [(1, .os [(tI a.k), (tI a.i), (tF a.f), (tS a.s), (tL (V.rows a.l))]), (2, .os [(tI 0), (tI 0), (tF (some 0)), (tS bE), (.tight [])]), (3, .os [(tI 4), (tI 0), (tF (some 0)), (tS bE), (.own 5024 5 (V.rows s))]), (5024, .op 5 (V.rows s))]⟩ [rg [1, 2, 3, 4, 10] [1, 2, 3, 5024], b0 [2, 3] [2, 3, 5024]] = some ⟨(.exit 0), ⟨27, [(2, (.ptr 2 0)), (3, (.ptr 3 0))], [(2, .os [(tI 0), (tI 0), (tF (some 0)), (tS bE), (.tight [])]), (3, .os [(tI 4), (tI 0), (tF (some 0)), (tS bE), (.own 5024 5 (V.rows s))]), (5024, .op 5 (V.rows s))]⟩, [], [], [(decide (((a.l.length : Nat) : Int) < (((V.rows a.l).length : Nat) : Int))) = false]⟩ by kernel_rfl) (pc (lt_ff (V.rows_length _)) pn) cn
  ·intro i x s hx hi hI
   have hb : (m68_b0 a) x i s = (s ++ [(x.l[0]?.getD default)]) := by simp only [m68_b0]
   rw [hb]
   have hr := wo (show run TP 99 (bodyAt Tryz.f68 [1, 1, 0, 1, 0, 0]) ⟨27, [(1, (.ptr 1 0)), (2, (.ptr 2 0)), (3, (.ptr 3 0)), (4, (tI ((i : Nat) : Int)))], [(1, .os [(tI a.k), (tI a.i), (tF a.f), (tS a.s), (tL (V.rows a.l))]), (2, .os [(tI 0), (tI 0), (tF (some 0)), (tS bE), (.tight [])]), (3, .os [(tI 4), (tI 0), (tF (some 0)), (tS bE), (.own 5024 5 (V.rows s))]), (5024, .op 5 (V.rows s))]⟩ [rg [1, 2, 3, 4, 10] [1, 2, 3, 5024], b1 [1, 2, 3, 4] [1, 2, 3, 5024], .drw [[], [], [], [], [], [.cellsT (VC x)], [], [], [.cellsT (VC (x.l[0]?.getD default))], [], [], [], [], []] [.keep [1, 2, 3, 4] [1, 2, 3, 24], .mv 24 5024] [1, 2, 3, 4] [1, 2, 3, 5024], rg [1, 2, 3, 4] [1, 2, 3, 5024]] = some ⟨.normal, ⟨27, [(1, (.ptr 1 0)), (2, (.ptr 2 0)), (3, (.ptr 3 0)), (4, (tI (IntKind.i64.wrap (((i : Nat) : Int) + 1))))], [(1, .os [(tI a.k), (tI a.i), (tF a.f), (tS a.s), (tL (V.rows a.l))]), (2, .os [(tI 0), (tI 0), (tF (some 0)), (tS bE), (.tight [])]), (3, .os [(tI 4), (tI 0), (tF (some 0)), (tS bE), (.own 5024 5 ((V.rows s) ++ [(VC (x.l[0]?.getD default))]))]), (5024, .op 5 ((V.rows s) ++ [(VC (x.l[0]?.getD default))]))]⟩, [], [], [(decide (((i : Nat) : Int) < (((V.rows a.l).length : Nat) : Int))) = true, (0 : Int) ≤ ((i : Nat) : Int), (V.rows a.l)[(((i : Nat) : Int) : Int).toNat]? = some (VC x), (0 : Int) ≤ 0, (V.rows x.l)[(0 : Int).toNat]? = some (VC (x.l[0]?.getD default)), (((V.rows s) : List (List T)).length + ([(VC (x.l[0]?.getD default))] : List (List T)).length) * 64 ≤ 140737488355328, ((V.rows s) : List (List T)).length + ([(VC (x.l[0]?.getD default))] : List (List T)).length ≤ 274877906944, ∀ z, z ∈ ((V.rows s) : List (List T)) → z.length = 5, ∀ z, z ∈ ([(VC (x.l[0]?.getD default))] : List (List T)) → z.length = 5]⟩ by kernel_rfl) (pc (lt_tt hi (V.rows_length _)) (pc (Int.natCast_nonneg _) (pc (V.rows_at hx) (pc (by decide) (pc (V.rows_pick  (i := 0) (by have := hp x (List.mem_of_getElem? hx); omega)) (pc (by simp only [V.rows_length, List.length_cons, List.length_nil, Nat.zero_add] at *; omega) (pc (by simp only [V.rows_length, List.length_cons, List.length_nil, Nat.zero_add] at *; omega) (pc (V.rows_z _) (pc (by simp) pn))))))))) cn
   rw [wrap_succ hi hlen] at hr
   have e0_0 : V.rows (s ++ [(x.l[0]?.getD default)]) = ((V.rows s) ++ [(VC (x.l[0]?.getD default))]) := V.rows_snoc _ _
   rw [← e0_0] at hr
   exact ⟨hr, (by simp only [List.length_append, List.length_cons, List.length_nil] at *; omega)⟩
 exact co Tryz.func68 (by kernel_rfl) (show runF TP 99 Tryz.f68 [(VM a)] [] [] [rg [1, 2] [1, 2], rg [1, 2, 3] [1, 2, 3], .reg [] [.armB 3 4 5024 5] [1, 2, 3, 4] [1, 2, 3, 5024], .cut (.exit 0) ⟨27, [(2, (.ptr 2 0)), (3, (.ptr 3 0))], [(2, .os [(tI 0), (tI 0), (tF (some 0)), (tS bE), (.tight [])]), (3, .os [(tI 4), (tI 0), (tF (some 0)), (tS bE), (.own 5024 5 (V.rows (lp2 (m68_b0 a) a.l 0 ([]))))]), (5024, .op 5 (V.rows (lp2 (m68_b0 a) a.l 0 ([]))))]⟩, rg [2] [2]] = some ⟨.ret (.agg [(tI 4), (tI 0), (tF (some 0)), (tS bE), (tL (V.rows (lp2 (m68_b0 a) a.l 0 ([]))))]), [], [], [_]⟩ by kernel_rfl) (pc hl1 pn) cn
def m24_b0 (a : ByteArray) (x : QChoirref8Method) (i : Nat) (s : (List ByteArray)) : (List ByteArray) :=
 (s ++ [x.name])
def m24 (a : ByteArray) : (List ByteArray) :=
 (lp2 (m24_b0 a) (m48 a) 0 ([]))
theorem f24_ok (a : ByteArray) : CallOk TP 24 [(tS a)] [] (.ret (tL (Str.rows (m24 a)))) [] := by
 refine CallOk.short fun hsh => ?_
 rw [show m24 a = (lp2 (m24_b0 a) (m48 a) 0 ([])) by simp only [m24]]
 have hlen : (m48 a).length ≤ 274877906944 := (by simp only [m48, cond_eq_ite]; (repeat' split) <;> simp)
 have hl1 : W TP (bodyAt Tryz.f24 [1, 1, 1, 0, 1, 0]) ⟨23, [(3, (tL (QChoirref8Method.rows (m48 a)))), (4, (.own 5021 1 [])), (5, (tI 0))], [(5021, .op 1 [])]⟩ (One (.exit 0) ((fun (i : Nat) (s : (List ByteArray)) => (⟨23, [(4, (.own 5021 1 (Str.rows s)))], [(5021, .op 1 (Str.rows s))]⟩ : St)) (m48 a).length (lp2 (m24_b0 a) (m48 a) 0 ([])))) := by
  refine lp2_W (e := (.exit 0)) (c := bodyAt Tryz.f24 [1, 1, 1, 0, 1, 0, 0]) (m48 a) (fun (i : Nat) (s : (List ByteArray)) => (⟨23, [(3, (tL (QChoirref8Method.rows (m48 a)))), (4, (.own 5021 1 (Str.rows s))), (5, (tI ((i : Nat) : Int)))], [(5021, .op 1 (Str.rows s))]⟩ : St)) (fun (i : Nat) (s : (List ByteArray)) => (⟨23, [(4, (.own 5021 1 (Str.rows s)))], [(5021, .op 1 (Str.rows s))]⟩ : St)) (m24_b0 a) (fun (i : Nat) (s : (List ByteArray)) => (s.length ≤ i : Prop)) ([]) (by simp) (by kernel_rfl) (by simp) ?_ ?_
  ·intro s hI
   exact wo (show run TP 99 (bodyAt Tryz.f24 [1, 1, 1, 0, 1, 0, 0]) ⟨23, [(3, (tL (QChoirref8Method.rows (m48 a)))), (4, (.own 5021 1 (Str.rows s))), (5, (tI (((m48 a).length : Nat) : Int)))], [(5021, .op 1 (Str.rows s))]⟩ [rg [3, 4, 5, 11] [5021], b0 [4] [5021]] = some ⟨(.exit 0), ⟨23, [(4, (.own 5021 1 (Str.rows s)))], [(5021, .op 1 (Str.rows s))]⟩, [], [], [(decide ((((m48 a).length : Nat) : Int) < (((QChoirref8Method.rows (m48 a)).length : Nat) : Int))) = false]⟩ by kernel_rfl) (pc (lt_ff (QChoirref8Method.rows_length _)) pn) cn
  ·intro i x s hx hi hI
   have hb : (m24_b0 a) x i s = (s ++ [x.name]) := by simp only [m24_b0]
   rw [hb]
   have hr := wo (show run TP 99 (bodyAt Tryz.f24 [1, 1, 1, 0, 1, 0, 0]) ⟨23, [(3, (tL (QChoirref8Method.rows (m48 a)))), (4, (.own 5021 1 (Str.rows s))), (5, (tI ((i : Nat) : Int)))], [(5021, .op 1 (Str.rows s))]⟩ [rg [3, 4, 5, 11] [5021], b1 [3, 4, 5] [5021], .reg [.cellsT [(sS x.name), (sS x.takes), (sB x.writes)]] [.keep [3, 4, 5] [21], .mv 21 5021] [3, 4, 5] [5021], rg [3, 4, 5] [5021]] = some ⟨.normal, ⟨23, [(3, (tL (QChoirref8Method.rows (m48 a)))), (4, (.own 5021 1 ((Str.rows s) ++ [[(sS x.name)]]))), (5, (tI (IntKind.i64.wrap (((i : Nat) : Int) + 1))))], [(5021, .op 1 ((Str.rows s) ++ [[(sS x.name)]]))]⟩, [], [], [(decide (((i : Nat) : Int) < (((QChoirref8Method.rows (m48 a)).length : Nat) : Int))) = true, (0 : Int) ≤ ((i : Nat) : Int), (QChoirref8Method.rows (m48 a))[(((i : Nat) : Int) : Int).toNat]? = some [(sS x.name), (sS x.takes), (sB x.writes)], (((Str.rows s) : List (List T)).length + ([[(sS x.name)]] : List (List T)).length) * 16 ≤ 140737488355328, ((Str.rows s) : List (List T)).length + ([[(sS x.name)]] : List (List T)).length ≤ 274877906944, ∀ z, z ∈ ((Str.rows s) : List (List T)) → z.length = 1, ∀ z, z ∈ ([[(sS x.name)]] : List (List T)) → z.length = 1]⟩ by kernel_rfl) (pc (lt_tt hi (QChoirref8Method.rows_length _)) (pc (Int.natCast_nonneg _) (pc (QChoirref8Method.rows_at hx) (pc (by simp only [Str.rows_length, List.length_cons, List.length_nil, Nat.zero_add] at *; omega) (pc (by simp only [Str.rows_length, List.length_cons, List.length_nil, Nat.zero_add] at *; omega) (pc (Str.rows_z _) (pc (by simp) pn))))))) cn
   rw [wrap_succ hi hlen] at hr
   have e0_0 : Str.rows (s ++ [x.name]) = ((Str.rows s) ++ [[(sS x.name)]]) := Str.rows_snoc _ _
   rw [← e0_0] at hr
   exact ⟨hr, (by simp only [List.length_append, List.length_cons, List.length_nil] at *; omega)⟩
 exact co Tryz.func24 (by kernel_rfl) (show runF TP 99 Tryz.f24 [(tS a)] [] [] [rg [0] [], .reg [(rr (tL (QChoirref8Method.rows (m48 a))))] [] [3] [], rg [3, 4] [], .reg [] [.armT 4 5021 1] [3, 4, 5] [5021], .cut (.exit 0) ⟨23, [(4, (.own 5021 1 (Str.rows (lp2 (m24_b0 a) (m48 a) 0 ([])))))], [(5021, .op 1 (Str.rows (lp2 (m24_b0 a) (m48 a) 0 ([]))))]⟩, rg [2] []] = some ⟨.ret (tL (Str.rows (lp2 (m24_b0 a) (m48 a) 0 ([])))), [], _, [_]⟩ by kernel_rfl) (pc hl1 pn) (cc (f48_ok a) cn)
theorem m24_len : (m24 (ByteArray.mk #[108, 101, 100, 103, 101, 114])).length = 7 := by kernel_rfl
theorem mod8 {a : Int} (h : 0 ≤ a ∧ a < 256) : (Int.tmod (IntKind.i64.wrap a) (IntKind.i64.wrap ((((Str.rows (m24 (ByteArray.mk #[108, 101, 100, 103, 101, 114]))).length : Nat) : Int) + 1))) = a % 8 := by
 have e : IntKind.i64.wrap (((7 : Nat) : Int) + 1) = 8 := by decide
 have e2 : IntKind.i64.wrap a = a := by rw [IntKind.wrap_i64]; omega
 rw [Str.rows_length, m24_len, e, e2, Int.tmod_eq_emod_of_nonneg h.1]
def m74 (a : V) : Bool :=
 bif (a.k == (3 : Int)) then
  bif (decide ((a.s.size : Int) ≥ (1 : Int))) then
   (decide ((a.s.size : Int) ≤ (32 : Int)))
  else
   false
 else
  false
theorem f74_ok (a : V) : CallOk TP 74 [(VM a)] [] (.ret (tB (m74 a))) [] := by
 cases h1 : (a.k == (3 : Int))
 ·rw [show m74 a = false by simp only [m74, h1, cond_true, cond_false]]
  exact co Tryz.func74 (by kernel_rfl) (show runF TP 99 Tryz.f74 [(VM a)] [] [] [rg [1] [1], .reg [.bit false, .bit false] [] [2] []] = some ⟨.ret (tB false), [], [], [_, false = false]⟩ by kernel_rfl) (pc h1 (pc rfl pn)) cn
 ·cases h2 : (decide ((a.s.size : Int) ≥ (1 : Int)))
  ·rw [show m74 a = false by simp only [m74, h1, h2, cond_true, cond_false]]
   exact co Tryz.func74 (by kernel_rfl) (show runF TP 99 Tryz.f74 [(VM a)] [] [] [rg [1] [1], .reg [.bit true, .bit false] [] [2] []] = some ⟨.ret (tB false), [], [], [_, _]⟩ by kernel_rfl) (pc h1 (pc h2 pn)) cn
  ·rw [show m74 a = (decide ((a.s.size : Int) ≤ (32 : Int))) by simp only [m74, h1, h2, cond_true, cond_false]]
   exact co Tryz.func74 (by kernel_rfl) (show runF TP 99 Tryz.f74 [(VM a)] [] [] [rg [1] [1], .reg [.bit true, .bit true] [] [2] []] = some ⟨.ret (tB (decide ((a.s.size : Int) ≤ (32 : Int)))), [], [], [_, _]⟩ by kernel_rfl) (pc h1 (pc h2 pn)) cn
def m85 (a : V) : Bool :=
 bif (a.k == (4 : Int)) then
  bif (decide ((((V.rows a.l).length : Nat) : Int) ≥ (2 : Int))) then
   bif (m74 (a.l[0]?.getD default)) then
    (m74 (a.l[1]?.getD default))
   else
    false
  else
   false
 else
  false
theorem f85_ok (a : V) : CallOk TP 85 [(VM a)] [] (.ret (tB (m85 a))) [] := by
 cases h1 : (a.k == (4 : Int))
 ·rw [show m85 a = false by simp only [m85, h1, cond_true, cond_false]]
  exact co Tryz.func85 (by kernel_rfl) (show runF TP 99 Tryz.f85 [(VM a)] [] [] [rg [1] [1], .reg [.bit false, .bit false, .bit false] [] [2] []] = some ⟨.ret (tB false), [], [], [_, false = false, false = false]⟩ by kernel_rfl) (pc h1 (pc rfl (pc rfl pn))) cn
 ·cases h2 : (decide ((((V.rows a.l).length : Nat) : Int) ≥ (2 : Int)))
  ·rw [show m85 a = false by simp only [m85, h1, h2, cond_true, cond_false]]
   exact co Tryz.func85 (by kernel_rfl) (show runF TP 99 Tryz.f85 [(VM a)] [] [] [rg [1] [1], .reg [.bit true, .bit false, .bit false] [] [2] []] = some ⟨.ret (tB false), [], [], [_, _, false = false]⟩ by kernel_rfl) (pc h1 (pc h2 (pc rfl pn))) cn
  ·cases h3 : (m74 (a.l[0]?.getD default))
   ·rw [show m85 a = false by simp only [m85, h1, h2, h3, cond_true, cond_false]]
    exact co Tryz.func85 (by kernel_rfl) (show runF TP 99 Tryz.f85 [(VM a)] [] [] [rg [1] [1], .reg [.bit true, .bit true, .cellsT (VC (a.l[0]?.getD default)), (rr (tB (m74 (a.l[0]?.getD default)))), .bit false] [] [2] []] = some ⟨.ret (tB false), [], _, [_, _, (0 : Int) ≤ 0, (V.rows a.l)[(0 : Int).toNat]? = some (VC (a.l[0]?.getD default)), _]⟩ by kernel_rfl) (pc h1 (pc h2 (pc (by decide) (pc (V.rows_pick  (i := 0) (by simp only [V.rows_length, bne_eq_false_iff_eq, bne_iff_ne, beq_iff_eq, beq_eq_false_iff_ne, decide_eq_true_eq, decide_eq_false_iff_not, ne_eq] at h2; omega)) (pc h3 pn))))) (cc (f74_ok (a.l[0]?.getD default)) cn)
   ·rw [show m85 a = (m74 (a.l[1]?.getD default)) by simp only [m85, h1, h2, h3, cond_true, cond_false]]
    exact co Tryz.func85 (by kernel_rfl) (show runF TP 99 Tryz.f85 [(VM a)] [] [] [rg [1] [1], .reg [.bit true, .bit true, .cellsT (VC (a.l[0]?.getD default)), (rr (tB (m74 (a.l[0]?.getD default)))), .bit true, .cellsT (VC (a.l[1]?.getD default)), (rr (tB (m74 (a.l[1]?.getD default))))] [] [2] []] = some ⟨.ret (tB (m74 (a.l[1]?.getD default))), [], _, [_, _, (0 : Int) ≤ 0, (V.rows a.l)[(0 : Int).toNat]? = some (VC (a.l[0]?.getD default)), _, (0 : Int) ≤ 1, (V.rows a.l)[(1 : Int).toNat]? = some (VC (a.l[1]?.getD default))]⟩ by kernel_rfl) (pc h1 (pc h2 (pc (by decide) (pc (V.rows_pick  (i := 0) (by simp only [V.rows_length, bne_eq_false_iff_eq, bne_iff_ne, beq_iff_eq, beq_eq_false_iff_ne, decide_eq_true_eq, decide_eq_false_iff_not, ne_eq] at h2; omega)) (pc h3 (pc (by decide) (pc (V.rows_pick  (i := 1) (by simp only [V.rows_length, bne_eq_false_iff_eq, bne_iff_ne, beq_iff_eq, beq_eq_false_iff_ne, decide_eq_true_eq, decide_eq_false_iff_not, ne_eq] at h2; omega)) pn))))))) (cc (f74_ok (a.l[0]?.getD default)) (cc (f74_ok (a.l[1]?.getD default)) cn))
def m52 (a : Int) (b : V) : Bool :=
 bif (a == (110 : Int)) then
  (m74 b)
 else
  bif (a == (102 : Int)) then
   bif (b.k == (1 : Int)) then
    true
   else
    (b.k == (2 : Int))
  else
   bif (a == (105 : Int)) then
    (b.k == (1 : Int))
   else
    bif (a == (115 : Int)) then
     (m85 b)
    else
     true
theorem f52_ok (a : Int) (b : V) : CallOk TP 52 [(.t (.s (.int .u8 a))), (VM b)] [] (.ret (tB (m52 a b))) [] := by
 cases h1 : (a == (110 : Int))
 ·cases h2 : (a == (102 : Int))
  ·cases h3 : (a == (105 : Int))
   ·cases h4 : (a == (115 : Int))
    ·rw [show m52 a b = true by simp only [m52, h1, h2, h3, h4, cond_true, cond_false]]
     exact co Tryz.func52 (by kernel_rfl) (show runF TP 99 Tryz.f52 [(.t (.s (.int .u8 a))), (VM b)] [] [] [rg [0, 3] [3], rg [3, 5] [3], rg [3, 5, 6] [3], b0 [3, 5] [3], rg [3, 5, 10] [3], b0 [3, 5] [3], rg [3, 5, 20] [3], b0 [3, 5] [3], rg [3, 25] [3], b0 [] [], rg [4] []] = some ⟨.ret (tB true), [], [], [_, _, _, _]⟩ by kernel_rfl) (pc h1 (pc h2 (pc h3 (pc h4 pn)))) cn
    ·rw [show m52 a b = (m85 b) by simp only [m52, h1, h2, h3, h4, cond_true, cond_false]]
     exact co Tryz.func52 (by kernel_rfl) (show runF TP 99 Tryz.f52 [(.t (.s (.int .u8 a))), (VM b)] [] [] [rg [0, 3] [3], rg [3, 5] [3], rg [3, 5, 6] [3], b0 [3, 5] [3], rg [3, 5, 10] [3], b0 [3, 5] [3], rg [3, 5, 20] [3], b0 [3, 5] [3], rg [3, 25] [3], b1 [3] [3], .reg [(rr (tB (m85 b)))] [] [4] []] = some ⟨.ret (tB (m85 b)), [], _, [_, _, _, _]⟩ by kernel_rfl) (pc h1 (pc h2 (pc h3 (pc h4 pn)))) (cc (f85_ok b) cn)
   ·rw [show m52 a b = (b.k == (1 : Int)) by simp only [m52, h1, h2, h3, cond_true, cond_false]]
    exact co Tryz.func52 (by kernel_rfl) (show runF TP 99 Tryz.f52 [(.t (.s (.int .u8 a))), (VM b)] [] [] [rg [0, 3] [3], rg [3, 5] [3], rg [3, 5, 6] [3], b0 [3, 5] [3], rg [3, 5, 10] [3], b0 [3, 5] [3], rg [3, 5, 20] [3], b1 [3] [3], rg [4] []] = some ⟨.ret (tB (b.k == (1 : Int))), [], [], [_, _, _]⟩ by kernel_rfl) (pc h1 (pc h2 (pc h3 pn))) cn
  ·cases h3 : (b.k == (1 : Int))
   ·rw [show m52 a b = (b.k == (2 : Int)) by simp only [m52, h1, h2, h3, cond_true, cond_false]]
    exact co Tryz.func52 (by kernel_rfl) (show runF TP 99 Tryz.f52 [(.t (.s (.int .u8 a))), (VM b)] [] [] [rg [0, 3] [3], rg [3, 5] [3], rg [3, 5, 6] [3], b0 [3, 5] [3], rg [3, 5, 10] [3], b1 [3] [3], .reg [.bit false] [] [4] []] = some ⟨.ret (tB (b.k == (2 : Int))), [], [], [_, _, _]⟩ by kernel_rfl) (pc h1 (pc h2 (pc h3 pn))) cn
   ·rw [show m52 a b = true by simp only [m52, h1, h2, h3, cond_true, cond_false]]
    exact co Tryz.func52 (by kernel_rfl) (show runF TP 99 Tryz.f52 [(.t (.s (.int .u8 a))), (VM b)] [] [] [rg [0, 3] [3], rg [3, 5] [3], rg [3, 5, 6] [3], b0 [3, 5] [3], rg [3, 5, 10] [3], b1 [3] [3], .reg [.bit true] [] [4] []] = some ⟨.ret (tB true), [], [], [_, _, _]⟩ by kernel_rfl) (pc h1 (pc h2 (pc h3 pn))) cn
 ·rw [show m52 a b = (m74 b) by simp only [m52, h1, cond_true, cond_false]]
  exact co Tryz.func52 (by kernel_rfl) (show runF TP 99 Tryz.f52 [(.t (.s (.int .u8 a))), (VM b)] [] [] [rg [0, 3] [3], rg [3, 5] [3], rg [3, 5, 6] [3], b1 [3] [3], .reg [(rr (tB (m74 b)))] [] [4] []] = some ⟨.ret (tB (m74 b)), [], _, [_]⟩ by kernel_rfl) (pc h1 pn) (cc (f74_ok b) cn)
def m76 (a : (Option Nat)) : Bool :=
 (decide ((IntKind.i64.wrap (m47 a)) < (0 : Int)))
theorem f76_ok (a : (Option Nat)) (hs : a.isSome = true) : CallOk TP 76 [(tF a)] [] (.ret (tB (m76 a))) [] := by
 rw [show m76 a = (decide ((IntKind.i64.wrap (m47 a)) < (0 : Int))) by simp only [m76]]
 exact co Tryz.func76 (by kernel_rfl) (show runF TP 99 Tryz.f76 [(tF a)] [] [] [rg [0] [], .reg [(rr (.t (.s (.int .u64 (m47 a)))))] [] [2] []] = some ⟨.ret (tB (decide ((IntKind.i64.wrap (m47 a)) < (0 : Int)))), [], _, []⟩ by kernel_rfl) pn (cc (f47_ok a (by assumption)) cn)
def m88 (a : V) : Int :=
 bif (a.k == (1 : Int)) then
  bif (decide (a.i < (0 : Int))) then
   (-1)
  else
   bif (a.k == (2 : Int)) then
    bif (fo a.f (some 0) == some .lt) then
     (-1)
    else
     bif (decide (a.i > (0 : Int))) then
      1
     else
      bif (fo a.f (some 0) == some .gt) then
       1
      else
       0
   else
    bif (decide (a.i > (0 : Int))) then
     1
    else
     0
 else
  bif (a.k == (2 : Int)) then
   bif (fo a.f (some 0) == some .lt) then
    (-1)
   else
    bif (fo a.f (some 0) == some .gt) then
     1
    else
     0
  else
   0
theorem f88_ok (a : V) : CallOk TP 88 [(VM a)] [] (.ret (tI (m88 a))) [] := by
 cases h1 : (a.k == (1 : Int))
 ·cases h2 : (a.k == (2 : Int))
  ·rw [show m88 a = 0 by simp only [m88, h1, h2, cond_true, cond_false]]
   exact co Tryz.func88 (by kernel_rfl) (show runF TP 99 Tryz.f88 [(VM a)] [] [] [rg [1] [1], .reg [.bit false] [] [1, 3] [1], b0 [1] [1], .reg [.bit false] [] [1, 3] [1], b0 [1] [1], .reg [.bit false] [] [1, 20] [1], b0 [1] [1], .reg [.bit false] [] [20] [], b0 [] [], rg [2] []] = some ⟨.ret (tI 0), [], [], [_, false = false, _, false = false, _, false = false, _, false = false]⟩ by kernel_rfl) (pc h1 (pc rfl (pc h2 (pc rfl (pc h1 (pc rfl (pc h2 (pc rfl pn)))))))) cn
  ·cases h3 : (fo a.f (some 0) == some .lt)
   ·cases h4 : (fo a.f (some 0) == some .gt)
    ·rw [show m88 a = 0 by simp only [m88, h1, h2, h3, h4, cond_true, cond_false]]
     exact co Tryz.func88 (by kernel_rfl) (show runF TP 99 Tryz.f88 [(VM a)] [] [] [rg [1] [1], .reg [.bit false] [] [1, 3] [1], b0 [1] [1], .reg [.bit true] [] [1, 3] [1], b0 [1] [1], .reg [.bit false] [] [1, 20] [1], b0 [1] [1], .reg [.bit true] [] [20] [], b0 [] [], rg [2] []] = some ⟨.ret (tI 0), [], [], [_, false = false, _, _, _, false = false, _, _]⟩ by kernel_rfl) (pc h1 (pc rfl (pc h2 (pc h3 (pc h1 (pc rfl (pc h2 (pc h4 pn)))))))) cn
    ·rw [show m88 a = 1 by simp only [m88, h1, h2, h3, h4, cond_true, cond_false]]
     exact co Tryz.func88 (by kernel_rfl) (show runF TP 99 Tryz.f88 [(VM a)] [] [] [rg [1] [1], .reg [.bit false] [] [1, 3] [1], b0 [1] [1], .reg [.bit true] [] [1, 3] [1], b0 [1] [1], .reg [.bit false] [] [1, 20] [1], b0 [1] [1], .reg [.bit true] [] [20] [], b1 [] [], rg [2] []] = some ⟨.ret (tI 1), [], [], [_, false = false, _, _, _, false = false, _, _]⟩ by kernel_rfl) (pc h1 (pc rfl (pc h2 (pc h3 (pc h1 (pc rfl (pc h2 (pc h4 pn)))))))) cn
   ·rw [show m88 a = (-1) by simp only [m88, h1, h2, h3, cond_true, cond_false]]
    exact co Tryz.func88 (by kernel_rfl) (show runF TP 99 Tryz.f88 [(VM a)] [] [] [rg [1] [1], .reg [.bit false] [] [1, 3] [1], b0 [1] [1], .reg [.bit true] [] [1, 3] [1], b1 [] [], rg [2] []] = some ⟨.ret (tI (-1)), [], [], [_, false = false, _, _]⟩ by kernel_rfl) (pc h1 (pc rfl (pc h2 (pc h3 pn)))) cn
 ·cases h2 : (decide (a.i < (0 : Int)))
  ·cases h3 : (a.k == (2 : Int))
   ·cases h4 : (decide (a.i > (0 : Int)))
    ·rw [show m88 a = 0 by simp only [m88, h1, h2, h3, h4, cond_true, cond_false]]
     exact co Tryz.func88 (by kernel_rfl) (show runF TP 99 Tryz.f88 [(VM a)] [] [] [rg [1] [1], .reg [.bit true] [] [1, 3] [1], b0 [1] [1], .reg [.bit false] [] [1, 3] [1], b0 [1] [1], .reg [.bit true] [] [1, 20] [1], b0 [1] [1], .reg [.bit false] [] [20] [], b0 [] [], rg [2] []] = some ⟨.ret (tI 0), [], [], [_, _, _, false = false, _, _, _, false = false]⟩ by kernel_rfl) (pc h1 (pc h2 (pc h3 (pc rfl (pc h1 (pc h4 (pc h3 (pc rfl pn)))))))) cn
    ·rw [show m88 a = 1 by simp only [m88, h1, h2, h3, h4, cond_true, cond_false]]
     exact co Tryz.func88 (by kernel_rfl) (show runF TP 99 Tryz.f88 [(VM a)] [] [] [rg [1] [1], .reg [.bit true] [] [1, 3] [1], b0 [1] [1], .reg [.bit false] [] [1, 3] [1], b0 [1] [1], .reg [.bit true] [] [1, 20] [1], b1 [20] [], b1 [] [], rg [2] []] = some ⟨.ret (tI 1), [], [], [_, _, _, false = false, _, _, _]⟩ by kernel_rfl) (pc h1 (pc h2 (pc h3 (pc rfl (pc h1 (pc h4 (pc h4 pn))))))) cn
   ·cases h4 : (fo a.f (some 0) == some .lt)
    ·cases h5 : (decide (a.i > (0 : Int)))
     ·cases h6 : (fo a.f (some 0) == some .gt)
      ·rw [show m88 a = 0 by simp only [m88, h1, h2, h3, h4, h5, h6, cond_true, cond_false]]
       exact co Tryz.func88 (by kernel_rfl) (show runF TP 99 Tryz.f88 [(VM a)] [] [] [rg [1] [1], .reg [.bit true] [] [1, 3] [1], b0 [1] [1], .reg [.bit true] [] [1, 3] [1], b0 [1] [1], .reg [.bit true] [] [1, 20] [1], b0 [1] [1], .reg [.bit true] [] [20] [], b0 [] [], rg [2] []] = some ⟨.ret (tI 0), [], [], [_, _, _, _, _, _, _, _]⟩ by kernel_rfl) (pc h1 (pc h2 (pc h3 (pc h4 (pc h1 (pc h5 (pc h3 (pc h6 pn)))))))) cn
      ·rw [show m88 a = 1 by simp only [m88, h1, h2, h3, h4, h5, h6, cond_true, cond_false]]
       exact co Tryz.func88 (by kernel_rfl) (show runF TP 99 Tryz.f88 [(VM a)] [] [] [rg [1] [1], .reg [.bit true] [] [1, 3] [1], b0 [1] [1], .reg [.bit true] [] [1, 3] [1], b0 [1] [1], .reg [.bit true] [] [1, 20] [1], b0 [1] [1], .reg [.bit true] [] [20] [], b1 [] [], rg [2] []] = some ⟨.ret (tI 1), [], [], [_, _, _, _, _, _, _, _]⟩ by kernel_rfl) (pc h1 (pc h2 (pc h3 (pc h4 (pc h1 (pc h5 (pc h3 (pc h6 pn)))))))) cn
     ·rw [show m88 a = 1 by simp only [m88, h1, h2, h3, h4, h5, cond_true, cond_false]]
      exact co Tryz.func88 (by kernel_rfl) (show runF TP 99 Tryz.f88 [(VM a)] [] [] [rg [1] [1], .reg [.bit true] [] [1, 3] [1], b0 [1] [1], .reg [.bit true] [] [1, 3] [1], b0 [1] [1], .reg [.bit true] [] [1, 20] [1], b1 [20] [], b1 [] [], rg [2] []] = some ⟨.ret (tI 1), [], [], [_, _, _, _, _, _, _]⟩ by kernel_rfl) (pc h1 (pc h2 (pc h3 (pc h4 (pc h1 (pc h5 (pc h5 pn))))))) cn
    ·rw [show m88 a = (-1) by simp only [m88, h1, h2, h3, h4, cond_true, cond_false]]
     exact co Tryz.func88 (by kernel_rfl) (show runF TP 99 Tryz.f88 [(VM a)] [] [] [rg [1] [1], .reg [.bit true] [] [1, 3] [1], b0 [1] [1], .reg [.bit true] [] [1, 3] [1], b1 [] [], rg [2] []] = some ⟨.ret (tI (-1)), [], [], [_, _, _, _]⟩ by kernel_rfl) (pc h1 (pc h2 (pc h3 (pc h4 pn)))) cn
  ·rw [show m88 a = (-1) by simp only [m88, h1, h2, cond_true, cond_false]]
   exact co Tryz.func88 (by kernel_rfl) (show runF TP 99 Tryz.f88 [(VM a)] [] [] [rg [1] [1], .reg [.bit true] [] [1, 3] [1], b1 [1, 3] [1], b1 [] [], rg [2] []] = some ⟨.ret (tI (-1)), [], [], [_, _, _]⟩ by kernel_rfl) (pc h1 (pc h2 (pc h2 pn))) cn
def m40 (a : V) : Bool :=
 bif (a.k != (4 : Int)) then
  false
 else
  bif ((((V.rows a.l).length : Nat) : Int) != (2 : Int)) then
   false
  else
   bif (m74 (a.l[0]?.getD default)) then
    bif ((a.l[1]?.getD default).k != (2 : Int)) then
     false
    else
     bif (m75 (a.l[1]?.getD default)) then
      bif (fo ((a.l[1]?.getD default).f) (some 0) == some .gt || fo ((a.l[1]?.getD default).f) (some 0) == some .eq) then
       (!(m76 ((a.l[1]?.getD default).f)))
      else
       false
     else
      false
   else
    false
theorem f40_ok (a : V) : CallOk TP 40 [(VM a)] [] (.ret (tB (m40 a))) [] := by
 cases h1 : (a.k != (4 : Int))
 ·cases h2 : ((((V.rows a.l).length : Nat) : Int) != (2 : Int))
  ·cases h3 : (m74 (a.l[0]?.getD default))
   ·rw [show m40 a = false by simp only [m40, h1, h2, h3, cond_true, cond_false]]
    have hrun : runF TP 99 Tryz.f40 [(VM a)] [] [] [rg [1] [1], .reg [.bit false, .bit false, .cellsT (VC (a.l[0]?.getD default)), (rr (tB (m74 (a.l[0]?.getD default)))), .bit true] [] [1, 27] [1], b1 [] [], rg [2] []] = some ⟨.ret (tB false), [], [(74, [(VM (a.l[0]?.getD default))], [], .ret (tB (m74 (a.l[0]?.getD default))), [])], [(a.k != (4 : Int)) = false, ((((V.rows a.l).length : Nat) : Int) != (2 : Int)) = false, (0 : Int) ≤ 0, (V.rows a.l)[(0 : Int).toNat]? = some (VC (a.l[0]?.getD default)), (!(m74 (a.l[0]?.getD default))) = true, true = true]⟩ := by kernel_rfl
    exact co Tryz.func40 (by kernel_rfl) hrun
     (by clear hrun; exact (pc h1 (pc h2 (pc (by decide) (pc (V.rows_pick  (i := 0) (by simp only [V.rows_length, bne_eq_false_iff_eq, bne_iff_ne, beq_iff_eq, beq_eq_false_iff_ne, decide_eq_true_eq, decide_eq_false_iff_not, ne_eq] at h2; omega)) (pc (not_tt h3) (pc rfl pn))))))) (by clear hrun; exact (cc (f74_ok (a.l[0]?.getD default)) cn))
   ·cases h4 : ((a.l[1]?.getD default).k != (2 : Int))
    ·cases h5 : (m75 (a.l[1]?.getD default))
     ·rw [show m40 a = false by simp only [m40, h1, h2, h3, h4, h5, cond_true, cond_false]]
      have hrun : runF TP 99 Tryz.f40 [(VM a)] [] [] [rg [1] [1], .reg [.bit false, .bit false, .cellsT (VC (a.l[0]?.getD default)), (rr (tB (m74 (a.l[0]?.getD default)))), .bit false, .cellsT (VC (a.l[1]?.getD default))] [] [1, 27] [1], b0 [1] [1], .reg [.cellsT (VC (a.l[1]?.getD default)), (rr (tB (m75 (a.l[1]?.getD default)))), .bit false, .bit false] [] [2] []] = some ⟨.ret (tB false), [], [(74, [(VM (a.l[0]?.getD default))], [], .ret (tB (m74 (a.l[0]?.getD default))), []), (75, [(VM (a.l[1]?.getD default))], [], .ret (tB (m75 (a.l[1]?.getD default))), [])], [(a.k != (4 : Int)) = false, ((((V.rows a.l).length : Nat) : Int) != (2 : Int)) = false, (0 : Int) ≤ 0, (V.rows a.l)[(0 : Int).toNat]? = some (VC (a.l[0]?.getD default)), (!(m74 (a.l[0]?.getD default))) = false, (0 : Int) ≤ 1, (V.rows a.l)[(1 : Int).toNat]? = some (VC (a.l[1]?.getD default)), ((a.l[1]?.getD default).k != (2 : Int)) = false, (0 : Int) ≤ 1, (V.rows a.l)[(1 : Int).toNat]? = some (VC (a.l[1]?.getD default)), (m75 (a.l[1]?.getD default)) = false, false = false]⟩ := by kernel_rfl
      exact co Tryz.func40 (by kernel_rfl) hrun
       (by clear hrun; exact (pc h1 (pc h2 (pc (by decide) (pc (V.rows_pick  (i := 0) (by simp only [V.rows_length, bne_eq_false_iff_eq, bne_iff_ne, beq_iff_eq, beq_eq_false_iff_ne, decide_eq_true_eq, decide_eq_false_iff_not, ne_eq] at h2; omega)) (pc (not_ff h3) (pc (by decide) (pc (V.rows_pick  (i := 1) (by simp only [V.rows_length, bne_eq_false_iff_eq, bne_iff_ne, beq_iff_eq, beq_eq_false_iff_ne, decide_eq_true_eq, decide_eq_false_iff_not, ne_eq] at h2; omega)) (pc h4 (pc (by decide) (pc (V.rows_pick  (i := 1) (by simp only [V.rows_length, bne_eq_false_iff_eq, bne_iff_ne, beq_iff_eq, beq_eq_false_iff_ne, decide_eq_true_eq, decide_eq_false_iff_not, ne_eq] at h2; omega)) (pc h5 (pc rfl pn))))))))))))) (by clear hrun; exact (cc (f74_ok (a.l[0]?.getD default)) (cc (f75_ok (a.l[1]?.getD default)) cn)))
     ·cases h6 : (fo ((a.l[1]?.getD default).f) (some 0) == some .gt || fo ((a.l[1]?.getD default).f) (some 0) == some .eq)
      ·rw [show m40 a = false by simp only [m40, h1, h2, h3, h4, h5, h6, cond_true, cond_false]]
       have hrun : runF TP 99 Tryz.f40 [(VM a)] [] [] [rg [1] [1], .reg [.bit false, .bit false, .cellsT (VC (a.l[0]?.getD default)), (rr (tB (m74 (a.l[0]?.getD default)))), .bit false, .cellsT (VC (a.l[1]?.getD default))] [] [1, 27] [1], b0 [1] [1], .reg [.cellsT (VC (a.l[1]?.getD default)), (rr (tB (m75 (a.l[1]?.getD default)))), .bit true, .cellsT (VC (a.l[1]?.getD default)), .bit false] [] [2] []] = some ⟨.ret (tB false), [], [(74, [(VM (a.l[0]?.getD default))], [], .ret (tB (m74 (a.l[0]?.getD default))), []), (75, [(VM (a.l[1]?.getD default))], [], .ret (tB (m75 (a.l[1]?.getD default))), [])], [(a.k != (4 : Int)) = false, ((((V.rows a.l).length : Nat) : Int) != (2 : Int)) = false, (0 : Int) ≤ 0, (V.rows a.l)[(0 : Int).toNat]? = some (VC (a.l[0]?.getD default)), (!(m74 (a.l[0]?.getD default))) = false, (0 : Int) ≤ 1, (V.rows a.l)[(1 : Int).toNat]? = some (VC (a.l[1]?.getD default)), ((a.l[1]?.getD default).k != (2 : Int)) = false, (0 : Int) ≤ 1, (V.rows a.l)[(1 : Int).toNat]? = some (VC (a.l[1]?.getD default)), (m75 (a.l[1]?.getD default)) = true, (0 : Int) ≤ 1, (V.rows a.l)[(1 : Int).toNat]? = some (VC (a.l[1]?.getD default)), (fo ((a.l[1]?.getD default).f) (some 0) == some .gt || fo ((a.l[1]?.getD default).f) (some 0) == some .eq) = false]⟩ := by kernel_rfl
       exact co Tryz.func40 (by kernel_rfl) hrun
        (by clear hrun; exact (pc h1 (pc h2 (pc (by decide) (pc (V.rows_pick  (i := 0) (by simp only [V.rows_length, bne_eq_false_iff_eq, bne_iff_ne, beq_iff_eq, beq_eq_false_iff_ne, decide_eq_true_eq, decide_eq_false_iff_not, ne_eq] at h2; omega)) (pc (not_ff h3) (pc (by decide) (pc (V.rows_pick  (i := 1) (by simp only [V.rows_length, bne_eq_false_iff_eq, bne_iff_ne, beq_iff_eq, beq_eq_false_iff_ne, decide_eq_true_eq, decide_eq_false_iff_not, ne_eq] at h2; omega)) (pc h4 (pc (by decide) (pc (V.rows_pick  (i := 1) (by simp only [V.rows_length, bne_eq_false_iff_eq, bne_iff_ne, beq_iff_eq, beq_eq_false_iff_ne, decide_eq_true_eq, decide_eq_false_iff_not, ne_eq] at h2; omega)) (pc h5 (pc (by decide) (pc (V.rows_pick  (i := 1) (by simp only [V.rows_length, bne_eq_false_iff_eq, bne_iff_ne, beq_iff_eq, beq_eq_false_iff_ne, decide_eq_true_eq, decide_eq_false_iff_not, ne_eq] at h2; omega)) (pc h6 pn))))))))))))))) (by clear hrun; exact (cc (f74_ok (a.l[0]?.getD default)) (cc (f75_ok (a.l[1]?.getD default)) cn)))
      ·rw [show m40 a = (!(m76 ((a.l[1]?.getD default).f))) by simp only [m40, h1, h2, h3, h4, h5, h6, cond_true, cond_false]]
       have hrun : runF TP 99 Tryz.f40 [(VM a)] [] [] [rg [1] [1], .reg [.bit false, .bit false, .cellsT (VC (a.l[0]?.getD default)), (rr (tB (m74 (a.l[0]?.getD default)))), .bit false, .cellsT (VC (a.l[1]?.getD default))] [] [1, 27] [1], b0 [1] [1], .reg [.cellsT (VC (a.l[1]?.getD default)), (rr (tB (m75 (a.l[1]?.getD default)))), .bit true, .cellsT (VC (a.l[1]?.getD default)), .bit true, .cellsT (VC (a.l[1]?.getD default)), (rr (tB (m76 ((a.l[1]?.getD default).f))))] [] [2] []] = some ⟨.ret (tB (!(m76 ((a.l[1]?.getD default).f)))), [], [(74, [(VM (a.l[0]?.getD default))], [], .ret (tB (m74 (a.l[0]?.getD default))), []), (75, [(VM (a.l[1]?.getD default))], [], .ret (tB (m75 (a.l[1]?.getD default))), []), (76, [(tF (a.l[1]?.getD default).f)], [], .ret (tB (m76 ((a.l[1]?.getD default).f))), [])], [(a.k != (4 : Int)) = false, ((((V.rows a.l).length : Nat) : Int) != (2 : Int)) = false, (0 : Int) ≤ 0, (V.rows a.l)[(0 : Int).toNat]? = some (VC (a.l[0]?.getD default)), (!(m74 (a.l[0]?.getD default))) = false, (0 : Int) ≤ 1, (V.rows a.l)[(1 : Int).toNat]? = some (VC (a.l[1]?.getD default)), ((a.l[1]?.getD default).k != (2 : Int)) = false, (0 : Int) ≤ 1, (V.rows a.l)[(1 : Int).toNat]? = some (VC (a.l[1]?.getD default)), (m75 (a.l[1]?.getD default)) = true, (0 : Int) ≤ 1, (V.rows a.l)[(1 : Int).toNat]? = some (VC (a.l[1]?.getD default)), (fo ((a.l[1]?.getD default).f) (some 0) == some .gt || fo ((a.l[1]?.getD default).f) (some 0) == some .eq) = true, (0 : Int) ≤ 1, (V.rows a.l)[(1 : Int).toNat]? = some (VC (a.l[1]?.getD default))]⟩ := by kernel_rfl
       exact co Tryz.func40 (by kernel_rfl) hrun
        (by clear hrun; exact (pc h1 (pc h2 (pc (by decide) (pc (V.rows_pick  (i := 0) (by simp only [V.rows_length, bne_eq_false_iff_eq, bne_iff_ne, beq_iff_eq, beq_eq_false_iff_ne, decide_eq_true_eq, decide_eq_false_iff_not, ne_eq] at h2; omega)) (pc (not_ff h3) (pc (by decide) (pc (V.rows_pick  (i := 1) (by simp only [V.rows_length, bne_eq_false_iff_eq, bne_iff_ne, beq_iff_eq, beq_eq_false_iff_ne, decide_eq_true_eq, decide_eq_false_iff_not, ne_eq] at h2; omega)) (pc h4 (pc (by decide) (pc (V.rows_pick  (i := 1) (by simp only [V.rows_length, bne_eq_false_iff_eq, bne_iff_ne, beq_iff_eq, beq_eq_false_iff_ne, decide_eq_true_eq, decide_eq_false_iff_not, ne_eq] at h2; omega)) (pc h5 (pc (by decide) (pc (V.rows_pick  (i := 1) (by simp only [V.rows_length, bne_eq_false_iff_eq, bne_iff_ne, beq_iff_eq, beq_eq_false_iff_ne, decide_eq_true_eq, decide_eq_false_iff_not, ne_eq] at h2; omega)) (pc h6 (pc (by decide) (pc (V.rows_pick  (i := 1) (by simp only [V.rows_length, bne_eq_false_iff_eq, bne_iff_ne, beq_iff_eq, beq_eq_false_iff_ne, decide_eq_true_eq, decide_eq_false_iff_not, ne_eq] at h2; omega)) pn))))))))))))))))) (by clear hrun; exact (cc (f74_ok (a.l[0]?.getD default)) (cc (f75_ok (a.l[1]?.getD default)) (cc (f76_ok ((a.l[1]?.getD default).f) (ge_some h6)) cn))))
    ·rw [show m40 a = false by simp only [m40, h1, h2, h3, h4, cond_true, cond_false]]
     have hrun : runF TP 99 Tryz.f40 [(VM a)] [] [] [rg [1] [1], .reg [.bit false, .bit false, .cellsT (VC (a.l[0]?.getD default)), (rr (tB (m74 (a.l[0]?.getD default)))), .bit false, .cellsT (VC (a.l[1]?.getD default))] [] [1, 27] [1], b1 [] [], rg [2] []] = some ⟨.ret (tB false), [], [(74, [(VM (a.l[0]?.getD default))], [], .ret (tB (m74 (a.l[0]?.getD default))), [])], [(a.k != (4 : Int)) = false, ((((V.rows a.l).length : Nat) : Int) != (2 : Int)) = false, (0 : Int) ≤ 0, (V.rows a.l)[(0 : Int).toNat]? = some (VC (a.l[0]?.getD default)), (!(m74 (a.l[0]?.getD default))) = false, (0 : Int) ≤ 1, (V.rows a.l)[(1 : Int).toNat]? = some (VC (a.l[1]?.getD default)), ((a.l[1]?.getD default).k != (2 : Int)) = true]⟩ := by kernel_rfl
     exact co Tryz.func40 (by kernel_rfl) hrun
      (by clear hrun; exact (pc h1 (pc h2 (pc (by decide) (pc (V.rows_pick  (i := 0) (by simp only [V.rows_length, bne_eq_false_iff_eq, bne_iff_ne, beq_iff_eq, beq_eq_false_iff_ne, decide_eq_true_eq, decide_eq_false_iff_not, ne_eq] at h2; omega)) (pc (not_ff h3) (pc (by decide) (pc (V.rows_pick  (i := 1) (by simp only [V.rows_length, bne_eq_false_iff_eq, bne_iff_ne, beq_iff_eq, beq_eq_false_iff_ne, decide_eq_true_eq, decide_eq_false_iff_not, ne_eq] at h2; omega)) (pc h4 pn))))))))) (by clear hrun; exact (cc (f74_ok (a.l[0]?.getD default)) cn))
  ·rw [show m40 a = false by simp only [m40, h1, h2, cond_true, cond_false]]
   have hrun : runF TP 99 Tryz.f40 [(VM a)] [] [] [rg [1] [1], .reg [.bit false, .bit true, .bit true] [] [1, 27] [1], b1 [] [], rg [2] []] = some ⟨.ret (tB false), [], [], [(a.k != (4 : Int)) = false, ((((V.rows a.l).length : Nat) : Int) != (2 : Int)) = true, true = true, true = true]⟩ := by kernel_rfl
   exact co Tryz.func40 (by kernel_rfl) hrun
    (by clear hrun; exact (pc h1 (pc h2 (pc rfl (pc rfl pn))))) (by clear hrun; exact cn)
 ·rw [show m40 a = false by simp only [m40, h1, cond_true, cond_false]]
  have hrun : runF TP 99 Tryz.f40 [(VM a)] [] [] [rg [1] [1], .reg [.bit true, .bit true, .bit true] [] [1, 27] [1], b1 [] [], rg [2] []] = some ⟨.ret (tB false), [], [], [(a.k != (4 : Int)) = true, true = true, true = true, true = true]⟩ := by kernel_rfl
  exact co Tryz.func40 (by kernel_rfl) hrun
   (by clear hrun; exact (pc h1 (pc rfl (pc rfl (pc rfl pn))))) (by clear hrun; exact cn)
theorem row_len {x : V} (h : m40 x = true) : x.l.length = 2 := by
 unfold m40 at h
 cases h1 : x.k != 4
 ·rw [h1] at h
  cases h2 : ((((V.rows x.l).length : Nat) : Int) != (2 : Int))
  ·rw [V.rows_length] at h2
   have := bne_eq_false_iff_eq.1 h2
   omega
  ·rw [h2] at h; cases h
 ·rw [h1] at h; cases h
def m41 (a : V) : ByteArray :=
 (a.l[0]?.getD default).s
theorem f41_ok (a : V) (hp : 0 < a.l.length) : CallOk TP 41 [(VM a)] [] (.ret (tS (m41 a))) [] := by
 rw [show m41 a = (a.l[0]?.getD default).s by simp only [m41]]
 exact co Tryz.func41 (by kernel_rfl) (show runF TP 99 Tryz.f41 [(VM a)] [] [] [rg [1] [1], .reg [.cellsT (VC (a.l[0]?.getD default))] [] [2] []] = some ⟨.ret (tS (a.l[0]?.getD default).s), [], [], [(0 : Int) ≤ 0, (V.rows a.l)[(0 : Int).toNat]? = some (VC (a.l[0]?.getD default))]⟩ by kernel_rfl) (pc (by decide) (pc (V.rows_pick  (i := 0) (by omega)) pn)) cn
def m98 (a : V) : Int :=
 bif (decide (a.k < (0 : Int))) then
  0
 else
  bif (decide (a.k > (4 : Int))) then
   0
  else
   a.k
theorem f98_ok (a : V) : CallOk TP 98 [(VM a)] [] (.ret (tI (m98 a))) [] := by
 cases h1 : (decide (a.k < (0 : Int)))
 ·cases h2 : (decide (a.k > (4 : Int)))
  ·rw [show m98 a = a.k by simp only [m98, h1, h2, cond_true, cond_false]]
   exact co Tryz.func98 (by kernel_rfl) (show runF TP 99 Tryz.f98 [(VM a)] [] [] [rg [1] [1], .reg [.bit false] [] [1, 10] [1], b0 [1] [1], rg [2] []] = some ⟨.ret (tI a.k), [], [], [_, _]⟩ by kernel_rfl) (pc h1 (pc h2 pn)) cn
  ·rw [show m98 a = 0 by simp only [m98, h1, h2, cond_true, cond_false]]
   exact co Tryz.func98 (by kernel_rfl) (show runF TP 99 Tryz.f98 [(VM a)] [] [] [rg [1] [1], .reg [.bit false] [] [1, 10] [1], b1 [] [], rg [2] []] = some ⟨.ret (tI 0), [], [], [_, _]⟩ by kernel_rfl) (pc h1 (pc h2 pn)) cn
 ·rw [show m98 a = 0 by simp only [m98, h1, cond_true, cond_false]]
  exact co Tryz.func98 (by kernel_rfl) (show runF TP 99 Tryz.f98 [(VM a)] [] [] [rg [1] [1], .reg [.bit true] [] [1, 10] [1], b1 [] [], rg [2] []] = some ⟨.ret (tI 0), [], [], [_, true = true]⟩ by kernel_rfl) (pc h1 (pc rfl pn)) cn
def m112_82_b0 (a : (List V)) (x : V) (i : Nat) (s : Unit) : Rd (Int) (Unit) :=
 bif (V.strange x) then
  .ret ((i : Nat) : Int)
 else
  .next ()
def m112_82 (a : (List V)) : Int :=
 match (lp (m112_82_b0 a) a 0 ()) with
 | .inl q1 => (
  q1)
 | .inr q1 => (
  (-1))
theorem f112_82_ok (a : (List V)) (ih : ∀ x ∈ a, CallOk TP 82 [V.m x] [] (.ret (tB (V.strange x))) []) : CallOk TP 112 [(tL (V.rows a)), (.clo 82 [])] [] (.ret (tI (m112_82 a))) [] := by
 refine CallOk.short fun hsh => ?_
 have hlen : a.length ≤ 274877906944 := (V.len hsh.1)
 have hl1 : W TP (bodyAt Tryz.f112 [1, 0, 1, 0]) ⟨19, [(0, (tL (V.rows a))), (1, (.clo 82 [])), (7, (tI (((V.rows a).length : Nat) : Int))), (8, (tI 0))], []⟩ (lpPost (fun (i : Nat) (s : Unit) => (⟨19, [], []⟩ : St)) (fun (r : Int) => (⟨19, [(4, (tI r))], []⟩ : St)) (.exit 0) (lp (m112_82_b0 a) a 0 ())) := by
  refine lp1_W (e := (.exit 0)) (c := bodyAt Tryz.f112 [1, 0, 1, 0, 0]) a (fun (i : Nat) (s : Unit) => (⟨19, [(0, (tL (V.rows a))), (1, (.clo 82 [])), (7, (tI (((V.rows a).length : Nat) : Int))), (8, (tI ((i : Nat) : Int)))], []⟩ : St)) (fun (i : Nat) (s : Unit) => (⟨19, [], []⟩ : St)) (fun (r : Int) => (⟨19, [(4, (tI r))], []⟩ : St)) (m112_82_b0 a) (fun (i : Nat) (s : Unit) => (True : Prop)) () trivial (by kernel_rfl) (by simp) ?_ ?_
  ·intro s hI
   exact wo (show run TP 99 (bodyAt Tryz.f112 [1, 0, 1, 0, 0]) ⟨19, [(0, (tL (V.rows a))), (1, (.clo 82 [])), (7, (tI (((V.rows a).length : Nat) : Int))), (8, (tI ((a.length : Nat) : Int)))], []⟩ [rg [0, 1, 7, 8, 9] [], b0 [] []] = some ⟨(.exit 0), ⟨19, [], []⟩, [], [], [(decide (((a.length : Nat) : Int) < (((V.rows a).length : Nat) : Int))) = false]⟩ by kernel_rfl) (pc (lt_ff (V.rows_length _)) pn) cn
  ·intro i x s hx hi hI
   cases g2 : (V.strange x)
   ·have hb : (m112_82_b0 a) x i s = .next () := by simp only [m112_82_b0, g2, cond_true, cond_false]
    rw [hb]
    have hr := wo (show run TP 99 (bodyAt Tryz.f112 [1, 0, 1, 0, 0]) ⟨19, [(0, (tL (V.rows a))), (1, (.clo 82 [])), (7, (tI (((V.rows a).length : Nat) : Int))), (8, (tI ((i : Nat) : Int)))], []⟩ [rg [0, 1, 7, 8, 9] [], b1 [0, 1, 7, 8] [], rg [0, 1, 5, 7, 8] [], .reg [.cellsT (VC x), (rr (tB (V.strange x)))] [] [0, 1, 5, 7, 8, 16] [], b0 [0, 1, 7, 8] [], rg [0, 1, 7, 8] []] = some ⟨.normal, ⟨19, [(0, (tL (V.rows a))), (1, (.clo 82 [])), (7, (tI (((V.rows a).length : Nat) : Int))), (8, (tI (IntKind.i64.wrap (((i : Nat) : Int) + 1))))], []⟩, [], _, [(decide (((i : Nat) : Int) < (((V.rows a).length : Nat) : Int))) = true, (0 : Int) ≤ ((i : Nat) : Int), _, _]⟩ by kernel_rfl) (pc (lt_tt hi (V.rows_length _)) (pc (Int.natCast_nonneg _) (pc (V.rows_at hx) (pc g2 pn)))) (cc (ih x (List.mem_of_getElem? hx)) cn)
    rw [wrap_succ hi hlen] at hr
    exact ⟨hr, fun _ _ => trivial⟩
   ·have hb : (m112_82_b0 a) x i s = .ret ((i : Nat) : Int) := by simp only [m112_82_b0, g2, cond_true, cond_false]
    rw [hb]
    have hr := wo (show run TP 99 (bodyAt Tryz.f112 [1, 0, 1, 0, 0]) ⟨19, [(0, (tL (V.rows a))), (1, (.clo 82 [])), (7, (tI (((V.rows a).length : Nat) : Int))), (8, (tI ((i : Nat) : Int)))], []⟩ [rg [0, 1, 7, 8, 9] [], b1 [0, 1, 7, 8] [], rg [0, 1, 5, 7, 8] [], .reg [.cellsT (VC x), (rr (tB (V.strange x)))] [] [0, 1, 5, 7, 8, 16] [], b1 [5] [], rg [4] []] = some ⟨.ret, ⟨19, [(4, (tI ((i : Nat) : Int)))], []⟩, [], _, [(decide (((i : Nat) : Int) < (((V.rows a).length : Nat) : Int))) = true, (0 : Int) ≤ ((i : Nat) : Int), _, _]⟩ by kernel_rfl) (pc (lt_tt hi (V.rows_length _)) (pc (Int.natCast_nonneg _) (pc (V.rows_at hx) (pc g2 pn)))) (cc (ih x (List.mem_of_getElem? hx)) cn)
    exact ⟨hr, fun _ _ => trivial⟩
 cases h1 : (lp (m112_82_b0 a) a 0 ()) with
 | inl q1 => 
  rw [show m112_82 a = q1 by simp only [m112_82, h1, cond_true, cond_false]]
  rw [h1] at hl1
  exact co Tryz.func112 (by kernel_rfl) (show runF TP 99 Tryz.f112 [(tL (V.rows a)), (.clo 82 [])] [] [] [rg [0, 1] [], rg [0, 1, 7, 8] [], .cut .ret ⟨19, [(4, (tI q1))], []⟩] = some ⟨.ret (tI q1), [], [], [_]⟩ by kernel_rfl) (pc hl1 pn) cn
 | inr q1 => 
  rw [show m112_82 a = (-1) by simp only [m112_82, h1, cond_true, cond_false]]
  rw [h1] at hl1
  exact co Tryz.func112 (by kernel_rfl) (show runF TP 99 Tryz.f112 [(tL (V.rows a)), (.clo 82 [])] [] [] [rg [0, 1] [], rg [0, 1, 7, 8] [], .cut (.exit 0) ⟨19, [], []⟩, rg [4] []] = some ⟨.ret (tI (-1)), [], [], [_]⟩ by kernel_rfl) (pc hl1 pn) cn
def m99_82 (a : (List V)) : Bool :=
 (decide ((m112_82 a) ≥ (0 : Int)))
theorem f99_82_ok (a : (List V)) (ih : ∀ x ∈ a, CallOk TP 82 [V.m x] [] (.ret (tB (V.strange x))) []) : CallOk TP 99 [(tL (V.rows a)), (.clo 82 [])] [] (.ret (tB (m99_82 a))) [] := by
 rw [show m99_82 a = (decide ((m112_82 a) ≥ (0 : Int))) by simp only [m99_82]]
 exact co Tryz.func99 (by kernel_rfl) (show runF TP 99 Tryz.f99 [(tL (V.rows a)), (.clo 82 [])] [] [] [rg [0, 1] [], .reg [(rr (tI (m112_82 a)))] [] [4] []] = some ⟨.ret (tB (decide ((m112_82 a) ≥ (0 : Int)))), [], _, []⟩ by kernel_rfl) pn (cc (f112_82_ok a (by first | exact ih | exact fun x _ => f33_ok x)) cn)
def m82 (a : V) : Bool :=
 bif (a.k != (m98 a)) then
  true
 else
  bif (a.k == (4 : Int)) then
   (m99_82 a.l)
  else
   false
theorem m112_82_loop (a : List V) : ∀ (l : List V) (i : Nat), geZ (match lp (m112_82_b0 a) l i () with | .inl q => q | .inr _ => (-1)) = V.stranges l
 | [], i => by simp [lp, V.stranges, geZ]
 | x :: r, i => by
  simp only [lp, m112_82_b0, V.stranges]
  cases h : x.strange
  ·simpa [h] using m112_82_loop a r (i + 1)
  ·simp [geZ]
theorem vstrange_eq (a : V) : V.strange a = m82 a := by
 have e : m99_82 a.l = V.stranges a.l := m112_82_loop a.l a.l 0
 unfold m82
 rw [e]
 obtain ⟨k, i, f, s, l⟩ := a
 simp only [V.strange, V.k, V.l, m98]
 by_cases h1 : k < 0
 ·have : k ≠ 0 := by omega
  simp [h1, this]
 ·by_cases h2 : k > 4
  ·have : k ≠ 0 := by omega
   simp [h1, h2, this]
  ·simp [h1, h2]
theorem f82_ok (a : V) : CallOk TP 82 [(VM a)] [] (.ret (tB (V.strange a))) [] := by
 refine V.induct (p := fun a => CallOk TP 82 [(VM a)] [] (.ret (tB (V.strange a))) []) ?_ a; intro a ih
 rw [vstrange_eq a]
 cases h1 : (a.k != (m98 a))
 ·cases h2 : (a.k == (4 : Int))
  ·rw [show m82 a = false by simp only [m82, h1, h2, cond_true, cond_false]]
   exact co Tryz.func82 (by kernel_rfl) (show runF TP 99 Tryz.f82 [(VM a)] [] [] [rg [1] [1], .drw [[], [], [], [(rr (tI (m98 a)))], [], [.bit false], [], [], [], [.bit false], [], [], [], [], [], []] [] [2] []] = some ⟨.ret (tB false), [], _, [_, _]⟩ by kernel_rfl) (pc h1 (pc h2 pn)) (cc (f98_ok a) cn)
  ·rw [show m82 a = (m99_82 a.l) by simp only [m82, h1, h2, cond_true, cond_false]]
   exact co Tryz.func82 (by kernel_rfl) (show runF TP 99 Tryz.f82 [(VM a)] [] [] [rg [1] [1], .drw [[], [], [], [(rr (tI (m98 a)))], [], [.bit false], [], [], [], [.bit true], [], [], [(rr (tB (m99_82 a.l)))], [], [], []] [] [2] []] = some ⟨.ret (tB (m99_82 a.l)), [], _, [_, _]⟩ by kernel_rfl) (pc h1 (pc h2 pn)) (cc (f98_ok a) (cc (f99_82_ok a.l (by first | exact ih | exact fun x _ => f33_ok x)) cn))
 ·rw [show m82 a = true by simp only [m82, h1, cond_true, cond_false]]
  exact co Tryz.func82 (by kernel_rfl) (show runF TP 99 Tryz.f82 [(VM a)] [] [] [rg [1] [1], .drw [[], [], [], [(rr (tI (m98 a)))], [], [.bit true], [], [], [], [], [], [], [], [], [], []] [] [2] []] = some ⟨.ret (tB true), [], _, [_]⟩ by kernel_rfl) (pc h1 pn) (cc (f98_ok a) cn)
def m100 (a : V) (b : Int) : Bool :=
 (V.big a (IntKind.i64.wrap (b - 1)))
theorem f100_ok (a : V) (b : Int) (ih : ∀ d : Int, CallOk TP 83 [V.m a, .t (sI d)] [] (.ret (tB (V.big a d))) []) : CallOk TP 100 [(VM a), (.cp [(sI b)])] [] (.ret (tB (m100 a b))) [] := by
 rw [show m100 a b = (V.big a (IntKind.i64.wrap (b - 1))) by simp only [m100]]
 exact co Tryz.func100 (by kernel_rfl) (show runF TP 99 Tryz.f100 [(VM a), (.cp [(sI b)])] [] [] [rg [1, 2] [2], .reg [(rr (tB (V.big a (IntKind.i64.wrap (b - 1)))))] [] [3] []] = some ⟨.ret (tB (V.big a (IntKind.i64.wrap (b - 1)))), [], _, []⟩ by kernel_rfl) pn (cc (ih (IntKind.i64.wrap (b - 1))) cn)
def m112_100_b0 (a : (List V)) (b : Int) (x : V) (i : Nat) (s : Unit) : Rd (Int) (Unit) :=
 bif (m100 x b) then
  .ret ((i : Nat) : Int)
 else
  .next ()
def m112_100 (a : (List V)) (b : Int) : Int :=
 match (lp (m112_100_b0 a b) a 0 ()) with
 | .inl q1 => (
  q1)
 | .inr q1 => (
  (-1))
theorem f112_100_ok (a : (List V)) (b : Int) (ih : ∀ x ∈ a, ∀ d : Int, CallOk TP 83 [V.m x, .t (sI d)] [] (.ret (tB (V.big x d))) []) : CallOk TP 112 [(tL (V.rows a)), (.clo 100 [(.cp [(sI b)])])] [] (.ret (tI (m112_100 a b))) [] := by
 refine CallOk.short fun hsh => ?_
 have hlen : a.length ≤ 274877906944 := (V.len hsh.1)
 have hl1 : W TP (bodyAt Tryz.f112 [1, 0, 1, 0]) ⟨19, [(0, (tL (V.rows a))), (1, (.clo 100 [(.cp [(sI b)])])), (7, (tI (((V.rows a).length : Nat) : Int))), (8, (tI 0))], []⟩ (lpPost (fun (i : Nat) (s : Unit) => (⟨19, [], []⟩ : St)) (fun (r : Int) => (⟨19, [(4, (tI r))], []⟩ : St)) (.exit 0) (lp (m112_100_b0 a b) a 0 ())) := by
  refine lp1_W (e := (.exit 0)) (c := bodyAt Tryz.f112 [1, 0, 1, 0, 0]) a (fun (i : Nat) (s : Unit) => (⟨19, [(0, (tL (V.rows a))), (1, (.clo 100 [(.cp [(sI b)])])), (7, (tI (((V.rows a).length : Nat) : Int))), (8, (tI ((i : Nat) : Int)))], []⟩ : St)) (fun (i : Nat) (s : Unit) => (⟨19, [], []⟩ : St)) (fun (r : Int) => (⟨19, [(4, (tI r))], []⟩ : St)) (m112_100_b0 a b) (fun (i : Nat) (s : Unit) => (True : Prop)) () trivial (by kernel_rfl) (by simp) ?_ ?_
  ·intro s hI
   exact wo (show run TP 99 (bodyAt Tryz.f112 [1, 0, 1, 0, 0]) ⟨19, [(0, (tL (V.rows a))), (1, (.clo 100 [(.cp [(sI b)])])), (7, (tI (((V.rows a).length : Nat) : Int))), (8, (tI ((a.length : Nat) : Int)))], []⟩ [rg [0, 1, 7, 8, 9] [], b0 [] []] = some ⟨(.exit 0), ⟨19, [], []⟩, [], [], [(decide (((a.length : Nat) : Int) < (((V.rows a).length : Nat) : Int))) = false]⟩ by kernel_rfl) (pc (lt_ff (V.rows_length _)) pn) cn
  ·intro i x s hx hi hI
   cases g2 : (m100 x b)
   ·have hb : (m112_100_b0 a b) x i s = .next () := by simp only [m112_100_b0, g2, cond_true, cond_false]
    rw [hb]
    have hr := wo (show run TP 99 (bodyAt Tryz.f112 [1, 0, 1, 0, 0]) ⟨19, [(0, (tL (V.rows a))), (1, (.clo 100 [(.cp [(sI b)])])), (7, (tI (((V.rows a).length : Nat) : Int))), (8, (tI ((i : Nat) : Int)))], []⟩ [rg [0, 1, 7, 8, 9] [], b1 [0, 1, 7, 8] [], rg [0, 1, 5, 7, 8] [], .reg [.cellsT (VC x), (rr (tB (m100 x b)))] [] [0, 1, 5, 7, 8, 16] [], b0 [0, 1, 7, 8] [], rg [0, 1, 7, 8] []] = some ⟨.normal, ⟨19, [(0, (tL (V.rows a))), (1, (.clo 100 [(.cp [(sI b)])])), (7, (tI (((V.rows a).length : Nat) : Int))), (8, (tI (IntKind.i64.wrap (((i : Nat) : Int) + 1))))], []⟩, [], _, [(decide (((i : Nat) : Int) < (((V.rows a).length : Nat) : Int))) = true, (0 : Int) ≤ ((i : Nat) : Int), _, _]⟩ by kernel_rfl) (pc (lt_tt hi (V.rows_length _)) (pc (Int.natCast_nonneg _) (pc (V.rows_at hx) (pc g2 pn)))) (cc (f100_ok x b (ih _ (List.mem_of_getElem? hx))) cn)
    rw [wrap_succ hi hlen] at hr
    exact ⟨hr, fun _ _ => trivial⟩
   ·have hb : (m112_100_b0 a b) x i s = .ret ((i : Nat) : Int) := by simp only [m112_100_b0, g2, cond_true, cond_false]
    rw [hb]
    have hr := wo (show run TP 99 (bodyAt Tryz.f112 [1, 0, 1, 0, 0]) ⟨19, [(0, (tL (V.rows a))), (1, (.clo 100 [(.cp [(sI b)])])), (7, (tI (((V.rows a).length : Nat) : Int))), (8, (tI ((i : Nat) : Int)))], []⟩ [rg [0, 1, 7, 8, 9] [], b1 [0, 1, 7, 8] [], rg [0, 1, 5, 7, 8] [], .reg [.cellsT (VC x), (rr (tB (m100 x b)))] [] [0, 1, 5, 7, 8, 16] [], b1 [5] [], rg [4] []] = some ⟨.ret, ⟨19, [(4, (tI ((i : Nat) : Int)))], []⟩, [], _, [(decide (((i : Nat) : Int) < (((V.rows a).length : Nat) : Int))) = true, (0 : Int) ≤ ((i : Nat) : Int), _, _]⟩ by kernel_rfl) (pc (lt_tt hi (V.rows_length _)) (pc (Int.natCast_nonneg _) (pc (V.rows_at hx) (pc g2 pn)))) (cc (f100_ok x b (ih _ (List.mem_of_getElem? hx))) cn)
    exact ⟨hr, fun _ _ => trivial⟩
 cases h1 : (lp (m112_100_b0 a b) a 0 ()) with
 | inl q1 => 
  rw [show m112_100 a b = q1 by simp only [m112_100, h1, cond_true, cond_false]]
  rw [h1] at hl1
  exact co Tryz.func112 (by kernel_rfl) (show runF TP 99 Tryz.f112 [(tL (V.rows a)), (.clo 100 [(.cp [(sI b)])])] [] [] [rg [0, 1] [], rg [0, 1, 7, 8] [], .cut .ret ⟨19, [(4, (tI q1))], []⟩] = some ⟨.ret (tI q1), [], [], [_]⟩ by kernel_rfl) (pc hl1 pn) cn
 | inr q1 => 
  rw [show m112_100 a b = (-1) by simp only [m112_100, h1, cond_true, cond_false]]
  rw [h1] at hl1
  exact co Tryz.func112 (by kernel_rfl) (show runF TP 99 Tryz.f112 [(tL (V.rows a)), (.clo 100 [(.cp [(sI b)])])] [] [] [rg [0, 1] [], rg [0, 1, 7, 8] [], .cut (.exit 0) ⟨19, [], []⟩, rg [4] []] = some ⟨.ret (tI (-1)), [], [], [_]⟩ by kernel_rfl) (pc hl1 pn) cn
def m99_100 (a : (List V)) (b : Int) : Bool :=
 (decide ((m112_100 a b) ≥ (0 : Int)))
theorem f99_100_ok (a : (List V)) (b : Int) (ih : ∀ x ∈ a, ∀ d : Int, CallOk TP 83 [V.m x, .t (sI d)] [] (.ret (tB (V.big x d))) []) : CallOk TP 99 [(tL (V.rows a)), (.clo 100 [(.cp [(sI b)])])] [] (.ret (tB (m99_100 a b))) [] := by
 rw [show m99_100 a b = (decide ((m112_100 a b) ≥ (0 : Int))) by simp only [m99_100]]
 exact co Tryz.func99 (by kernel_rfl) (show runF TP 99 Tryz.f99 [(tL (V.rows a)), (.clo 100 [(.cp [(sI b)])])] [] [] [rg [0, 1] [], .reg [(rr (tI (m112_100 a b)))] [] [4] []] = some ⟨.ret (tB (decide ((m112_100 a b) ≥ (0 : Int)))), [], _, []⟩ by kernel_rfl) pn (cc (f112_100_ok a b (by first | exact ih | exact fun x _ => f33_ok x)) cn)
def m83 (a : V) (b : Int) : Bool :=
 bif (a.k == (3 : Int)) then
  (decide ((a.s.size : Int) > (256 : Int)))
 else
  bif (a.k == (4 : Int)) then
   bif (decide ((((V.rows a.l).length : Nat) : Int) > (64 : Int))) then
    true
   else
    bif (decide (b < (1 : Int))) then
     true
    else
     (m99_100 a.l b)
  else
   false
theorem m112_100_loop (a : List V) (b : Int) : ∀ (l : List V) (i : Nat), geZ (match lp (m112_100_b0 a b) l i () with | .inl q => q | .inr _ => (-1)) = V.bigs l (IntKind.i64.wrap (b - 1))
 | [], i => by simp [lp, V.bigs, geZ]
 | x :: r, i => by
  simp only [lp, m112_100_b0, m100, V.bigs]
  cases h : x.big (IntKind.i64.wrap (b - 1))
  ·simpa [h] using m112_100_loop a b r (i + 1)
  ·simp [geZ]
theorem vbig_eq (a : V) (b : Int) : V.big a b = m83 a b := by
 have e : m99_100 a.l b = V.bigs a.l (IntKind.i64.wrap (b - 1)) := m112_100_loop a.l b a.l 0
 unfold m83
 rw [e, V.rows_length]
 obtain ⟨k, i, f, s, l⟩ := a
 rfl
theorem f83_ok (a : V) (b : Int) : CallOk TP 83 [(VM a), (tI b)] [] (.ret (tB (V.big a b))) [] := by
 revert b; refine V.induct (p := fun a => ∀ b, CallOk TP 83 [(VM a), (tI b)] [] (.ret (tB (V.big a b))) []) ?_ a; intro a ih b
 rw [vbig_eq a b]
 cases h1 : (a.k == (3 : Int))
 ·cases h2 : (a.k == (4 : Int))
  ·rw [show m83 a b = false by simp only [m83, h1, h2, cond_true, cond_false]]
   exact co Tryz.func83 (by kernel_rfl) (show runF TP 99 Tryz.f83 [(VM a), (tI b)] [] [] [rg [2, 3] [2, 3], rg [2, 3, 6] [2, 3], rg [2, 3, 6, 7] [2, 3], b0 [2, 3, 6] [2, 3], rg [2, 3, 13] [2, 3], b0 [] [], rg [4] []] = some ⟨.ret (tB false), [], [], [_, _]⟩ by kernel_rfl) (pc h1 (pc h2 pn)) cn
  ·cases h3 : (decide ((((V.rows a.l).length : Nat) : Int) > (64 : Int)))
   ·cases h4 : (decide (b < (1 : Int)))
    ·rw [show m83 a b = (m99_100 a.l b) by simp only [m83, h1, h2, h3, h4, cond_true, cond_false]]
     exact co Tryz.func83 (by kernel_rfl) (show runF TP 99 Tryz.f83 [(VM a), (tI b)] [] [] [rg [2, 3] [2, 3], rg [2, 3, 6] [2, 3], rg [2, 3, 6, 7] [2, 3], b0 [2, 3, 6] [2, 3], rg [2, 3, 13] [2, 3], .bitK true [.comS 3] [2, 3] [2], .reg [.bit false, .bit false, (rr (tB (m99_100 a.l b)))] [] [4] []] = some ⟨.ret (tB (m99_100 a.l b)), [], _, [_, _, _, _]⟩ by kernel_rfl) (pc h1 (pc h2 (pc h3 (pc h4 pn)))) (cc (f99_100_ok a.l b (by first | exact ih | exact fun x _ => f33_ok x)) cn)
    ·rw [show m83 a b = true by simp only [m83, h1, h2, h3, h4, cond_true, cond_false]]
     exact co Tryz.func83 (by kernel_rfl) (show runF TP 99 Tryz.f83 [(VM a), (tI b)] [] [] [rg [2, 3] [2, 3], rg [2, 3, 6] [2, 3], rg [2, 3, 6, 7] [2, 3], b0 [2, 3, 6] [2, 3], rg [2, 3, 13] [2, 3], .bitK true [.comS 3] [2, 3] [2], .reg [.bit false, .bit true] [] [4] []] = some ⟨.ret (tB true), [], [], [_, _, _, _]⟩ by kernel_rfl) (pc h1 (pc h2 (pc h3 (pc h4 pn)))) cn
   ·rw [show m83 a b = true by simp only [m83, h1, h2, h3, cond_true, cond_false]]
    exact co Tryz.func83 (by kernel_rfl) (show runF TP 99 Tryz.f83 [(VM a), (tI b)] [] [] [rg [2, 3] [2, 3], rg [2, 3, 6] [2, 3], rg [2, 3, 6, 7] [2, 3], b0 [2, 3, 6] [2, 3], rg [2, 3, 13] [2, 3], .bitK true [.comS 3] [2, 3] [2], .reg [.bit true, .bit true] [] [4] []] = some ⟨.ret (tB true), [], [], [_, _, _, true = true]⟩ by kernel_rfl) (pc h1 (pc h2 (pc h3 (pc rfl pn)))) cn
 ·rw [show m83 a b = (decide ((a.s.size : Int) > (256 : Int))) by simp only [m83, h1, cond_true, cond_false]]
  exact co Tryz.func83 (by kernel_rfl) (show runF TP 99 Tryz.f83 [(VM a), (tI b)] [] [] [rg [2, 3] [2, 3], rg [2, 3, 6] [2, 3], rg [2, 3, 6, 7] [2, 3], b1 [2] [2], rg [4] []] = some ⟨.ret (tB (decide ((a.s.size : Int) > (256 : Int)))), [], [], [_]⟩ by kernel_rfl) (pc h1 pn) cn
def m51 (a : V) : Int :=
 bif (V.strange a) then
  31
 else
  bif (V.big a 8) then
   22
  else
   bif (decide ((V.wsz a) > (4096 : Int))) then
    22
   else
    0
theorem f51_ok (a : V) : CallOk TP 51 [(VM a)] [] (.ret (tI (m51 a))) [] := by
 cases h1 : (V.strange a)
 ·cases h2 : (V.big a 8)
  ·cases h3 : (decide ((V.wsz a) > (4096 : Int)))
   ·rw [show m51 a = 0 by simp only [m51, h1, h2, h3, cond_true, cond_false]]
    exact co Tryz.func51 (by kernel_rfl) (show runF TP 99 Tryz.f51 [(VM a)] [] [] [rg [1] [1], .reg [(rr (tB (V.strange a)))] [] [1, 3] [1], b0 [1] [1], .reg [(rr (tB (V.big a 8))), .bit false, (rr (tI (V.wsz a)))] [] [6] [], b0 [] [], rg [2] []] = some ⟨.ret (tI 0), [], _, [_, _, _]⟩ by kernel_rfl) (pc h1 (pc h2 (pc h3 pn))) (cc (f82_ok a) (cc (f83_ok a 8) (cc (f84_ok a) cn)))
   ·rw [show m51 a = 22 by simp only [m51, h1, h2, h3, cond_true, cond_false]]
    exact co Tryz.func51 (by kernel_rfl) (show runF TP 99 Tryz.f51 [(VM a)] [] [] [rg [1] [1], .reg [(rr (tB (V.strange a)))] [] [1, 3] [1], b0 [1] [1], .reg [(rr (tB (V.big a 8))), .bit false, (rr (tI (V.wsz a)))] [] [6] [], b1 [] [], rg [2] []] = some ⟨.ret (tI 22), [], _, [_, _, _]⟩ by kernel_rfl) (pc h1 (pc h2 (pc h3 pn))) (cc (f82_ok a) (cc (f83_ok a 8) (cc (f84_ok a) cn)))
  ·rw [show m51 a = 22 by simp only [m51, h1, h2, cond_true, cond_false]]
   exact co Tryz.func51 (by kernel_rfl) (show runF TP 99 Tryz.f51 [(VM a)] [] [] [rg [1] [1], .reg [(rr (tB (V.strange a)))] [] [1, 3] [1], b0 [1] [1], .reg [(rr (tB (V.big a 8))), .bit true] [] [6] [], b1 [] [], rg [2] []] = some ⟨.ret (tI 22), [], _, [_, _, true = true]⟩ by kernel_rfl) (pc h1 (pc h2 (pc rfl pn))) (cc (f82_ok a) (cc (f83_ok a 8) cn))
 ·rw [show m51 a = 31 by simp only [m51, h1, cond_true, cond_false]]
  exact co Tryz.func51 (by kernel_rfl) (show runF TP 99 Tryz.f51 [(VM a)] [] [] [rg [1] [1], .reg [(rr (tB (V.strange a)))] [] [1, 3] [1], b1 [] [], rg [2] []] = some ⟨.ret (tI 31), [], _, [_]⟩ by kernel_rfl) (pc h1 pn) (cc (f82_ok a) cn)
def m15_b0 (a : V) (x : V) (i : Nat) (s : Unit) : Rd (Bool) (Unit) :=
 bif (m40 x) then
  bif (decide (((i : Nat) : Int) > (0 : Int))) then
   bif (Op.bytesLess (m41 (a.l[((IntKind.i64.wrap (((i : Nat) : Int) - 1)) : Int).toNat]?.getD default)).toList (m41 x).toList) then
    .next ()
   else
    .ret false
  else
   .next ()
 else
  .ret false
def m15 (a : V) : Bool :=
 bif (a.k != (4 : Int)) then
  false
 else
  bif (decide ((((V.rows a.l).length : Nat) : Int) > (32 : Int))) then
   false
  else
   match (lp (m15_b0 a) a.l 0 ()) with
   | .inl q3 => (
    q3)
   | .inr q3 => (
    true)
theorem f15_ok (a : V) : CallOk TP 15 [(VM a)] [] (.ret (tB (m15 a))) [] := by
 refine CallOk.short fun hsh => ?_
 cases h1 : (a.k != (4 : Int))
 ·cases h2 : (decide ((((V.rows a.l).length : Nat) : Int) > (32 : Int)))
  ·have hlen : a.l.length ≤ 274877906944 := (V.short_of hsh.1).len
   have hl1 : W TP (bodyAt Tryz.f15 [1, 1, 0, 1, 0]) ⟨42, [(1, (.ptr 1 0)), (15, (tL (V.rows a.l))), (16, (tI (((V.rows a.l).length : Nat) : Int))), (17, (tI 0))], [(1, .os [(tI a.k), (tI a.i), (tF a.f), (tS a.s), (tL (V.rows a.l))])]⟩ (lpPost (fun (i : Nat) (s : Unit) => (⟨42, [], []⟩ : St)) (fun (r : Bool) => (⟨42, [(2, (tB r))], []⟩ : St)) (.exit 0) (lp (m15_b0 a) a.l 0 ())) := by
    refine lp1_W (e := (.exit 0)) (c := bodyAt Tryz.f15 [1, 1, 0, 1, 0, 0]) a.l (fun (i : Nat) (s : Unit) => (⟨42, [(1, (.ptr 1 0)), (15, (tL (V.rows a.l))), (16, (tI (((V.rows a.l).length : Nat) : Int))), (17, (tI ((i : Nat) : Int)))], [(1, .os [(tI a.k), (tI a.i), (tF a.f), (tS a.s), (tL (V.rows a.l))])]⟩ : St)) (fun (i : Nat) (s : Unit) => (⟨42, [], []⟩ : St)) (fun (r : Bool) => (⟨42, [(2, (tB r))], []⟩ : St)) (m15_b0 a) (fun (i : Nat) (s : Unit) => (∀ j : Nat, j < i → m40 (a.l[j]?.getD default) = true : Prop)) () (fun j hj => absurd hj (Nat.not_lt_zero j)) (by kernel_rfl) (by simp) ?_ ?_
    ·intro s hI
     exact wo (show run TP 99 (bodyAt Tryz.f15 [1, 1, 0, 1, 0, 0]) ⟨42, [(1, (.ptr 1 0)), (15, (tL (V.rows a.l))), (16, (tI (((V.rows a.l).length : Nat) : Int))), (17, (tI ((a.l.length : Nat) : Int)))], [(1, .os [(tI a.k), (tI a.i), (tF a.f), (tS a.s), (tL (V.rows a.l))])]⟩ [rg [1, 15, 16, 17, 18] [1], b0 [] []] = some ⟨(.exit 0), ⟨42, [], []⟩, [], [], [(decide (((a.l.length : Nat) : Int) < (((V.rows a.l).length : Nat) : Int))) = false]⟩ by kernel_rfl) (pc (lt_ff (V.rows_length _)) pn) cn
    ·intro i x s hx hi hI
     cases g4 : (m40 x)
     ·have hb : (m15_b0 a) x i s = .ret false := by simp only [m15_b0, g4, cond_true, cond_false]
      rw [hb]
      have hr := wo (show run TP 99 (bodyAt Tryz.f15 [1, 1, 0, 1, 0, 0]) ⟨42, [(1, (.ptr 1 0)), (15, (tL (V.rows a.l))), (16, (tI (((V.rows a.l).length : Nat) : Int))), (17, (tI ((i : Nat) : Int)))], [(1, .os [(tI a.k), (tI a.i), (tF a.f), (tS a.s), (tL (V.rows a.l))])]⟩ [rg [1, 15, 16, 17, 18] [1], b1 [1, 15, 16, 17] [1], .reg [.cellsT (VC x)] [] [1, 3, 4, 15, 16, 17] [1, 4], .drw [[], [(rr (tB (m40 x)))], [], [.bit true], [], [], [], [], [], [], [], [], [], [], [], [], [], [], []] [] [1, 15, 16, 17, 40] [1], b1 [] [], rg [2] []] = some ⟨.ret, ⟨42, [(2, (tB false))], []⟩, [], _, [(decide (((i : Nat) : Int) < (((V.rows a.l).length : Nat) : Int))) = true, (0 : Int) ≤ ((i : Nat) : Int), _, _, true = true]⟩ by kernel_rfl) (pc (lt_tt hi (V.rows_length _)) (pc (Int.natCast_nonneg _) (pc (V.rows_at hx) (pc (not_tt g4) (pc rfl pn))))) (cc (f40_ok x) cn)
      exact ⟨hr, fun _ h => by cases h⟩
     ·cases g5 : (decide (((i : Nat) : Int) > (0 : Int)))
      ·have hb : (m15_b0 a) x i s = .next () := by simp only [m15_b0, g4, g5, cond_true, cond_false]
       rw [hb]
       have hr := wo (show run TP 99 (bodyAt Tryz.f15 [1, 1, 0, 1, 0, 0]) ⟨42, [(1, (.ptr 1 0)), (15, (tL (V.rows a.l))), (16, (tI (((V.rows a.l).length : Nat) : Int))), (17, (tI ((i : Nat) : Int)))], [(1, .os [(tI a.k), (tI a.i), (tF a.f), (tS a.s), (tL (V.rows a.l))])]⟩ [rg [1, 15, 16, 17, 18] [1], b1 [1, 15, 16, 17] [1], .reg [.cellsT (VC x)] [] [1, 3, 4, 15, 16, 17] [1, 4], .drw [[], [(rr (tB (m40 x)))], [], [.bit false], [], [], [.bit false], [], [], [], [], [], [], [], [], [], [], [], []] [] [1, 15, 16, 17, 40] [1], b0 [1, 15, 16, 17] [1], rg [1, 15, 16, 17] [1]] = some ⟨.normal, ⟨42, [(1, (.ptr 1 0)), (15, (tL (V.rows a.l))), (16, (tI (((V.rows a.l).length : Nat) : Int))), (17, (tI (IntKind.i64.wrap (((i : Nat) : Int) + 1))))], [(1, .os [(tI a.k), (tI a.i), (tF a.f), (tS a.s), (tL (V.rows a.l))])]⟩, [], _, [(decide (((i : Nat) : Int) < (((V.rows a.l).length : Nat) : Int))) = true, (0 : Int) ≤ ((i : Nat) : Int), _, _, _, false = false]⟩ by kernel_rfl) (pc (lt_tt hi (V.rows_length _)) (pc (Int.natCast_nonneg _) (pc (V.rows_at hx) (pc (not_ff g4) (pc g5 (pc rfl pn)))))) (cc (f40_ok x) cn)
       rw [wrap_succ hi hlen] at hr
       exact ⟨hr, fun s1 hs1 => by cases hs1; exact (fun j hj => by rcases Nat.lt_succ_iff_lt_or_eq.1 hj with hj | rfl; exact hI j hj; rw [hx]; exact g4)⟩
      ·cases g6 : (Op.bytesLess (m41 (a.l[((IntKind.i64.wrap (((i : Nat) : Int) - 1)) : Int).toNat]?.getD default)).toList (m41 x).toList)
       ·have hb : (m15_b0 a) x i s = .ret false := by simp only [m15_b0, g4, g5, g6, cond_true, cond_false]
        rw [hb]
        have hr := wo (show run TP 99 (bodyAt Tryz.f15 [1, 1, 0, 1, 0, 0]) ⟨42, [(1, (.ptr 1 0)), (15, (tL (V.rows a.l))), (16, (tI (((V.rows a.l).length : Nat) : Int))), (17, (tI ((i : Nat) : Int)))], [(1, .os [(tI a.k), (tI a.i), (tF a.f), (tS a.s), (tL (V.rows a.l))])]⟩ [rg [1, 15, 16, 17, 18] [1], b1 [1, 15, 16, 17] [1], .reg [.cellsT (VC x)] [] [1, 3, 4, 15, 16, 17] [1, 4], .drw [[], [(rr (tB (m40 x)))], [], [.bit false], [], [], [.bit true], [], [], [], [], [.cellsT (VC (a.l[((IntKind.i64.wrap (((i : Nat) : Int) - 1)) : Int).toNat]?.getD default))], [], [(rr (tS (m41 (a.l[((IntKind.i64.wrap (((i : Nat) : Int) - 1)) : Int).toNat]?.getD default))))], [], [(rr (tS (m41 x)))], [], [], []] [] [1, 15, 16, 17, 40] [1], b1 [] [], rg [2] []] = some ⟨.ret, ⟨42, [(2, (tB false))], []⟩, [], _, [(decide (((i : Nat) : Int) < (((V.rows a.l).length : Nat) : Int))) = true, (0 : Int) ≤ ((i : Nat) : Int), _, _, _, (0 : Int) ≤ (IntKind.i64.wrap (((i : Nat) : Int) - 1)), (V.rows a.l)[((IntKind.i64.wrap (((i : Nat) : Int) - 1)) : Int).toNat]? = some (VC (a.l[((IntKind.i64.wrap (((i : Nat) : Int) - 1)) : Int).toNat]?.getD default)), _]⟩ by kernel_rfl) (pc (lt_tt hi (V.rows_length _)) (pc (Int.natCast_nonneg _) (pc (V.rows_at hx) (pc (not_ff g4) (pc g5 (pc (by rw [prevI hi hlen g5]; exact Int.natCast_nonneg _) (pc (pickI V.rows_get (by rw [prevN hi hlen g5]; omega)) (pc (not_tt g6) pn)))))))) (cc (f40_ok x) (cc (f41_ok (a.l[((IntKind.i64.wrap (((i : Nat) : Int) - 1)) : Int).toNat]?.getD default) (by have hq := row_len (hI (i - 1) (by have := pos_of g5; omega)); rw [prevN hi hlen g5]; omega)) (cc (f41_ok x (by have := row_len g4; omega)) cn)))
        exact ⟨hr, fun _ h => by cases h⟩
       ·have hb : (m15_b0 a) x i s = .next () := by simp only [m15_b0, g4, g5, g6, cond_true, cond_false]
        rw [hb]
        have hr := wo (show run TP 99 (bodyAt Tryz.f15 [1, 1, 0, 1, 0, 0]) ⟨42, [(1, (.ptr 1 0)), (15, (tL (V.rows a.l))), (16, (tI (((V.rows a.l).length : Nat) : Int))), (17, (tI ((i : Nat) : Int)))], [(1, .os [(tI a.k), (tI a.i), (tF a.f), (tS a.s), (tL (V.rows a.l))])]⟩ [rg [1, 15, 16, 17, 18] [1], b1 [1, 15, 16, 17] [1], .reg [.cellsT (VC x)] [] [1, 3, 4, 15, 16, 17] [1, 4], .drw [[], [(rr (tB (m40 x)))], [], [.bit false], [], [], [.bit true], [], [], [], [], [.cellsT (VC (a.l[((IntKind.i64.wrap (((i : Nat) : Int) - 1)) : Int).toNat]?.getD default))], [], [(rr (tS (m41 (a.l[((IntKind.i64.wrap (((i : Nat) : Int) - 1)) : Int).toNat]?.getD default))))], [], [(rr (tS (m41 x)))], [], [], []] [] [1, 15, 16, 17, 40] [1], b0 [1, 15, 16, 17] [1], rg [1, 15, 16, 17] [1]] = some ⟨.normal, ⟨42, [(1, (.ptr 1 0)), (15, (tL (V.rows a.l))), (16, (tI (((V.rows a.l).length : Nat) : Int))), (17, (tI (IntKind.i64.wrap (((i : Nat) : Int) + 1))))], [(1, .os [(tI a.k), (tI a.i), (tF a.f), (tS a.s), (tL (V.rows a.l))])]⟩, [], _, [(decide (((i : Nat) : Int) < (((V.rows a.l).length : Nat) : Int))) = true, (0 : Int) ≤ ((i : Nat) : Int), _, _, _, (0 : Int) ≤ (IntKind.i64.wrap (((i : Nat) : Int) - 1)), (V.rows a.l)[((IntKind.i64.wrap (((i : Nat) : Int) - 1)) : Int).toNat]? = some (VC (a.l[((IntKind.i64.wrap (((i : Nat) : Int) - 1)) : Int).toNat]?.getD default)), _]⟩ by kernel_rfl) (pc (lt_tt hi (V.rows_length _)) (pc (Int.natCast_nonneg _) (pc (V.rows_at hx) (pc (not_ff g4) (pc g5 (pc (by rw [prevI hi hlen g5]; exact Int.natCast_nonneg _) (pc (pickI V.rows_get (by rw [prevN hi hlen g5]; omega)) (pc (not_ff g6) pn)))))))) (cc (f40_ok x) (cc (f41_ok (a.l[((IntKind.i64.wrap (((i : Nat) : Int) - 1)) : Int).toNat]?.getD default) (by have hq := row_len (hI (i - 1) (by have := pos_of g5; omega)); rw [prevN hi hlen g5]; omega)) (cc (f41_ok x (by have := row_len g4; omega)) cn)))
        rw [wrap_succ hi hlen] at hr
        exact ⟨hr, fun s1 hs1 => by cases hs1; exact (fun j hj => by rcases Nat.lt_succ_iff_lt_or_eq.1 hj with hj | rfl; exact hI j hj; rw [hx]; exact g4)⟩
   cases h3 : (lp (m15_b0 a) a.l 0 ()) with
   | inl q3 => 
    rw [show m15 a = q3 by simp only [m15, h1, h2, h3, cond_true, cond_false]]
    rw [h3] at hl1
    exact co Tryz.func15 (by kernel_rfl) (show runF TP 99 Tryz.f15 [(VM a)] [] [] [rg [1] [1], .reg [.bit false] [] [1, 13] [1], b0 [1] [1], rg [1, 15, 16, 17] [1], .cut .ret ⟨42, [(2, (tB q3))], []⟩] = some ⟨.ret (tB q3), [], [], [_, _, _]⟩ by kernel_rfl) (pc h1 (pc h2 (pc hl1 pn))) cn
   | inr q3 => 
    rw [show m15 a = true by simp only [m15, h1, h2, h3, cond_true, cond_false]]
    rw [h3] at hl1
    exact co Tryz.func15 (by kernel_rfl) (show runF TP 99 Tryz.f15 [(VM a)] [] [] [rg [1] [1], .reg [.bit false] [] [1, 13] [1], b0 [1] [1], rg [1, 15, 16, 17] [1], .cut (.exit 0) ⟨42, [], []⟩, rg [2] []] = some ⟨.ret (tB true), [], [], [_, _, _]⟩ by kernel_rfl) (pc h1 (pc h2 (pc hl1 pn))) cn
  ·rw [show m15 a = false by simp only [m15, h1, h2, cond_true, cond_false]]
   exact co Tryz.func15 (by kernel_rfl) (show runF TP 99 Tryz.f15 [(VM a)] [] [] [rg [1] [1], .reg [.bit false] [] [1, 13] [1], b1 [] [], rg [2] []] = some ⟨.ret (tB false), [], [], [_, _]⟩ by kernel_rfl) (pc h1 (pc h2 pn)) cn
 ·rw [show m15 a = false by simp only [m15, h1, cond_true, cond_false]]
  exact co Tryz.func15 (by kernel_rfl) (show runF TP 99 Tryz.f15 [(VM a)] [] [] [rg [1] [1], .reg [.bit true] [] [1, 13] [1], b1 [] [], rg [2] []] = some ⟨.ret (tB false), [], [], [_, true = true]⟩ by kernel_rfl) (pc h1 (pc rfl pn)) cn
def m50 (a : QArgsMethod) (b : Int) : ByteArray × Bool :=
 bif (a.takes.toList == (ByteArray.mk #[115]).toList) then
  bif (decide (b ≥ (1 : Int))) then
   ((ByteArray.mk #[115, 115, 115, 115, 115, 115, 115, 115]), (decide (b ≤ (8 : Int))))
  else
   ((ByteArray.mk #[115, 115, 115, 115, 115, 115, 115, 115]), false)
 else
  (a.takes, (b == (a.takes.size : Int)))
theorem f50_ok (a : QArgsMethod) (b : Int) : CallOk TP 50 [(.agg [(tS a.name), (tS a.takes), (tB a.writes)]), (tI b)] [] (.ret (.tup [(tS (m50 a b).1), (tB (m50 a b).2)])) [] := by
 cases h1 : (a.takes.toList == (ByteArray.mk #[115]).toList)
 ·rw [show m50 a b = (a.takes, (b == (a.takes.size : Int))) by simp only [m50, h1, cond_true, cond_false]]
  exact co Tryz.func50 (by kernel_rfl) (show runF TP 99 Tryz.f50 [(.agg [(tS a.name), (tS a.takes), (tB a.writes)]), (tI b)] [] [] [rg [1, 2] [2], rg [1, 2, 8] [2], b1 [1, 2] [2], .drw [[], [], [], [], [], [], [], [], []] [] [4, 5] []] = some ⟨.ret (.tup [(tS a.takes), (tB (b == (a.takes.size : Int)))]), [], [], [_]⟩ by kernel_rfl) (pc (not_tt h1) pn) cn
 ·cases h2 : (decide (b ≥ (1 : Int)))
  ·rw [show m50 a b = ((ByteArray.mk #[115, 115, 115, 115, 115, 115, 115, 115]), false) by simp only [m50, h1, h2, cond_true, cond_false]]
   exact co Tryz.func50 (by kernel_rfl) (show runF TP 99 Tryz.f50 [(.agg [(tS a.name), (tS a.takes), (tB a.writes)]), (tI b)] [] [] [rg [1, 2] [2], rg [1, 2, 8] [2], b0 [1] [], .reg [.bit false] [] [4, 5] []] = some ⟨.ret (.tup [(tS (ByteArray.mk #[115, 115, 115, 115, 115, 115, 115, 115])), (tB false)]), [], [], [_, _]⟩ by kernel_rfl) (pc (not_ff h1) (pc h2 pn)) cn
  ·rw [show m50 a b = ((ByteArray.mk #[115, 115, 115, 115, 115, 115, 115, 115]), (decide (b ≤ (8 : Int)))) by simp only [m50, h1, h2, cond_true, cond_false]]
   exact co Tryz.func50 (by kernel_rfl) (show runF TP 99 Tryz.f50 [(.agg [(tS a.name), (tS a.takes), (tB a.writes)]), (tI b)] [] [] [rg [1, 2] [2], rg [1, 2, 8] [2], b0 [1] [], .reg [.bit true] [] [4, 5] []] = some ⟨.ret (.tup [(tS (ByteArray.mk #[115, 115, 115, 115, 115, 115, 115, 115])), (tB (decide (b ≤ (8 : Int))))]), [], [], [_, _]⟩ by kernel_rfl) (pc (not_ff h1) (pc h2 pn)) cn
theorem kinds_size {m : QArgsMethod} {n : Int} (h : (m50 m n).2 = true) : n ≤ ((m50 m n).1.size : Int) := by
 unfold m50 at h ⊢
 cases h1 : m.takes.toList == (ByteArray.mk #[115]).toList
 ·rw [h1] at h
  have := eq_of_beq h
  simp only [cond_false]
  omega
 ·rw [h1] at h
  simp only [cond_true] at h ⊢
  cases h2 : decide (n ≥ (1 : Int))
  ·rw [h2] at h; cases h
  ·rw [h2] at h
   simp only [cond_true] at h ⊢
   have := of_decide_eq_true h
   have e : (ByteArray.mk #[115, 115, 115, 115, 115, 115, 115, 115]).size = 8 := rfl
   rw [e]; omega
def m25_b0 (a : ByteArray) (b : ByteArray) (c : (List V)) (x : V) (i : Nat) (s : Unit) : Rd (Int) (Unit) :=
 bif ((m51 x) != (0 : Int)) then
  .ret (m51 x)
 else
  .next ()
def m25_b1 (a : ByteArray) (b : ByteArray) (c : (List V)) (x : V) (i : Nat) (s : Unit) : Rd (Int) (Unit) :=
 bif (m52 ((((m50 ((m49 a b).1) (((V.rows c).length : Nat) : Int)).1).data.toList.getD (((i : Nat) : Int)).toNat 0).toNat : Int) x) then
  .next ()
 else
  .ret 31
def m25 (a : ByteArray) (b : ByteArray) (c : (List V)) : Int :=
 bif (m49 a b).2 then
  bif (m50 ((m49 a b).1) (((V.rows c).length : Nat) : Int)).2 then
   match (lp (m25_b0 a b c) c 0 ()) with
   | .inl q3 => (
    q3)
   | .inr q3 => (
    match (lp (m25_b1 a b c) c 0 ()) with
    | .inl q4 => (
     q4)
    | .inr q4 => (
     0))
  else
   31
 else
  31
theorem f25_ok (a : ByteArray) (b : ByteArray) (c : (List V)) : CallOk TP 25 [(tS a), (tS b), (tL (V.rows c))] [] (.ret (tI (m25 a b c))) [] := by
 refine CallOk.short fun hsh => ?_
 cases h1 : (m49 a b).2
 ·rw [show m25 a b c = 31 by simp only [m25, h1, cond_true, cond_false]]
  exact co Tryz.func25 (by kernel_rfl) (show runF TP 99 Tryz.f25 [(tS a), (tS b), (tL (V.rows c))] [] [] [rg [0, 1, 2] [], .reg [(rr (.tup [(.agg [(tS ((m49 a b).1).name), (tS ((m49 a b).1).takes), (tB ((m49 a b).1).writes)]), (tB (m49 a b).2)]))] [] [2, 7, 8] [7], rg [2, 7, 22] [7], b1 [] [], rg [6] []] = some ⟨.ret (tI 31), [], _, [_]⟩ by kernel_rfl) (pc (not_tt h1) pn) (cc (f49_ok a b) cn)
 ·cases h2 : (m50 ((m49 a b).1) (((V.rows c).length : Nat) : Int)).2
  ·rw [show m25 a b c = 31 by simp only [m25, h1, h2, cond_true, cond_false]]
   exact co Tryz.func25 (by kernel_rfl) (show runF TP 99 Tryz.f25 [(tS a), (tS b), (tL (V.rows c))] [] [] [rg [0, 1, 2] [], .reg [(rr (.tup [(.agg [(tS ((m49 a b).1).name), (tS ((m49 a b).1).takes), (tB ((m49 a b).1).writes)]), (tB (m49 a b).2)]))] [] [2, 7, 8] [7], rg [2, 7, 22] [7], b0 [2, 7] [7], .reg [(rr (.tup [(tS (m50 ((m49 a b).1) (((V.rows c).length : Nat) : Int)).1), (tB (m50 ((m49 a b).1) (((V.rows c).length : Nat) : Int)).2)]))] [] [2, 8, 9] [], rg [2, 9, 31] [], b1 [] [], rg [6] []] = some ⟨.ret (tI 31), [], _, [_, _]⟩ by kernel_rfl) (pc (not_ff h1) (pc (not_tt h2) pn)) (cc (f49_ok a b) (cc (f50_ok ((m49 a b).1) (((V.rows c).length : Nat) : Int)) cn))
  ·have hlen : c.length ≤ 274877906944 := (V.len hsh.2.2.1)
   have hl1 : W TP (bodyAt Tryz.f25 [1, 1, 1, 1, 1, 0, 1, 0]) ⟨58, [(2, (tL (V.rows c))), (9, (tS (m50 ((m49 a b).1) (((V.rows c).length : Nat) : Int)).1)), (32, (tL (V.rows c))), (33, (tI (((V.rows c).length : Nat) : Int))), (34, (tI 0))], []⟩ (lpPost (fun (i : Nat) (s : Unit) => (⟨58, [(2, (tL (V.rows c))), (9, (tS (m50 ((m49 a b).1) (((V.rows c).length : Nat) : Int)).1))], []⟩ : St)) (fun (r : Int) => (⟨58, [(6, (tI r))], []⟩ : St)) (.exit 0) (lp (m25_b0 a b c) c 0 ())) := by
    refine lp1_W (e := (.exit 0)) (c := bodyAt Tryz.f25 [1, 1, 1, 1, 1, 0, 1, 0, 0]) c (fun (i : Nat) (s : Unit) => (⟨58, [(2, (tL (V.rows c))), (9, (tS (m50 ((m49 a b).1) (((V.rows c).length : Nat) : Int)).1)), (32, (tL (V.rows c))), (33, (tI (((V.rows c).length : Nat) : Int))), (34, (tI ((i : Nat) : Int)))], []⟩ : St)) (fun (i : Nat) (s : Unit) => (⟨58, [(2, (tL (V.rows c))), (9, (tS (m50 ((m49 a b).1) (((V.rows c).length : Nat) : Int)).1))], []⟩ : St)) (fun (r : Int) => (⟨58, [(6, (tI r))], []⟩ : St)) (m25_b0 a b c) (fun (i : Nat) (s : Unit) => (True : Prop)) () trivial (by kernel_rfl) (by simp) ?_ ?_
    ·intro s hI
     exact wo (show run TP 99 (bodyAt Tryz.f25 [1, 1, 1, 1, 1, 0, 1, 0, 0]) ⟨58, [(2, (tL (V.rows c))), (9, (tS (m50 ((m49 a b).1) (((V.rows c).length : Nat) : Int)).1)), (32, (tL (V.rows c))), (33, (tI (((V.rows c).length : Nat) : Int))), (34, (tI ((c.length : Nat) : Int)))], []⟩ [rg [2, 9, 32, 33, 34, 35] [], b0 [2, 9] []] = some ⟨(.exit 0), ⟨58, [(2, (tL (V.rows c))), (9, (tS (m50 ((m49 a b).1) (((V.rows c).length : Nat) : Int)).1))], []⟩, [], [], [(decide (((c.length : Nat) : Int) < (((V.rows c).length : Nat) : Int))) = false]⟩ by kernel_rfl) (pc (lt_ff (V.rows_length _)) pn) cn
    ·intro i x s hx hi hI
     cases g4 : ((m51 x) != (0 : Int))
     ·have hb : (m25_b0 a b c) x i s = .next () := by simp only [m25_b0, g4, cond_true, cond_false]
      rw [hb]
      have hr := wo (show run TP 99 (bodyAt Tryz.f25 [1, 1, 1, 1, 1, 0, 1, 0, 0]) ⟨58, [(2, (tL (V.rows c))), (9, (tS (m50 ((m49 a b).1) (((V.rows c).length : Nat) : Int)).1)), (32, (tL (V.rows c))), (33, (tI (((V.rows c).length : Nat) : Int))), (34, (tI ((i : Nat) : Int)))], []⟩ [rg [2, 9, 32, 33, 34, 35] [], b1 [2, 9, 32, 33, 34] [], .reg [.cellsT (VC x)] [] [2, 9, 11, 32, 33, 34] [11], .reg [(rr (tI (m51 x)))] [] [2, 9, 12, 32, 33, 34] [], rg [2, 9, 12, 32, 33, 34, 41] [], b0 [2, 9, 32, 33, 34] [], rg [2, 9, 32, 33, 34] []] = some ⟨.normal, ⟨58, [(2, (tL (V.rows c))), (9, (tS (m50 ((m49 a b).1) (((V.rows c).length : Nat) : Int)).1)), (32, (tL (V.rows c))), (33, (tI (((V.rows c).length : Nat) : Int))), (34, (tI (IntKind.i64.wrap (((i : Nat) : Int) + 1))))], []⟩, [], _, [(decide (((i : Nat) : Int) < (((V.rows c).length : Nat) : Int))) = true, (0 : Int) ≤ ((i : Nat) : Int), _, _]⟩ by kernel_rfl) (pc (lt_tt hi (V.rows_length _)) (pc (Int.natCast_nonneg _) (pc (V.rows_at hx) (pc g4 pn)))) (cc (f51_ok x) cn)
      rw [wrap_succ hi hlen] at hr
      exact ⟨hr, fun _ _ => trivial⟩
     ·have hb : (m25_b0 a b c) x i s = .ret (m51 x) := by simp only [m25_b0, g4, cond_true, cond_false]
      rw [hb]
      have hr := wo (show run TP 99 (bodyAt Tryz.f25 [1, 1, 1, 1, 1, 0, 1, 0, 0]) ⟨58, [(2, (tL (V.rows c))), (9, (tS (m50 ((m49 a b).1) (((V.rows c).length : Nat) : Int)).1)), (32, (tL (V.rows c))), (33, (tI (((V.rows c).length : Nat) : Int))), (34, (tI ((i : Nat) : Int)))], []⟩ [rg [2, 9, 32, 33, 34, 35] [], b1 [2, 9, 32, 33, 34] [], .reg [.cellsT (VC x)] [] [2, 9, 11, 32, 33, 34] [11], .reg [(rr (tI (m51 x)))] [] [2, 9, 12, 32, 33, 34] [], rg [2, 9, 12, 32, 33, 34, 41] [], b1 [12] [], rg [6] []] = some ⟨.ret, ⟨58, [(6, (tI (m51 x)))], []⟩, [], _, [(decide (((i : Nat) : Int) < (((V.rows c).length : Nat) : Int))) = true, (0 : Int) ≤ ((i : Nat) : Int), _, _]⟩ by kernel_rfl) (pc (lt_tt hi (V.rows_length _)) (pc (Int.natCast_nonneg _) (pc (V.rows_at hx) (pc g4 pn)))) (cc (f51_ok x) cn)
      exact ⟨hr, fun _ _ => trivial⟩
   cases h3 : (lp (m25_b0 a b c) c 0 ()) with
   | inl q3 => 
    rw [show m25 a b c = q3 by simp only [m25, h1, h2, h3, cond_true, cond_false]]
    rw [h3] at hl1
    exact co Tryz.func25 (by kernel_rfl) (show runF TP 99 Tryz.f25 [(tS a), (tS b), (tL (V.rows c))] [] [] [rg [0, 1, 2] [], .reg [(rr (.tup [(.agg [(tS ((m49 a b).1).name), (tS ((m49 a b).1).takes), (tB ((m49 a b).1).writes)]), (tB (m49 a b).2)]))] [] [2, 7, 8] [7], rg [2, 7, 22] [7], b0 [2, 7] [7], .reg [(rr (.tup [(tS (m50 ((m49 a b).1) (((V.rows c).length : Nat) : Int)).1), (tB (m50 ((m49 a b).1) (((V.rows c).length : Nat) : Int)).2)]))] [] [2, 8, 9] [], rg [2, 9, 31] [], b0 [2, 9] [], rg [2, 9, 32, 33, 34] [], .cut .ret ⟨58, [(6, (tI q3))], []⟩] = some ⟨.ret (tI q3), [], _, [_, _, _]⟩ by kernel_rfl) (pc (not_ff h1) (pc (not_ff h2) (pc hl1 pn))) (cc (f49_ok a b) (cc (f50_ok ((m49 a b).1) (((V.rows c).length : Nat) : Int)) cn))
   | inr q3 => 
    have hlen : c.length ≤ 274877906944 := (V.len hsh.2.2.1)
    have hl2 : W TP (bodyAt Tryz.f25 [1, 1, 1, 1, 1, 1, 0, 1, 0]) ⟨58, [(9, (tS (m50 ((m49 a b).1) (((V.rows c).length : Nat) : Int)).1)), (44, (tL (V.rows c))), (45, (tI (((V.rows c).length : Nat) : Int))), (46, (tI 0))], []⟩ (lpPost (fun (i : Nat) (s : Unit) => (⟨58, [], []⟩ : St)) (fun (r : Int) => (⟨58, [(6, (tI r))], []⟩ : St)) (.exit 2) (lp (m25_b1 a b c) c 0 ())) := by
     refine lp1_W (e := (.exit 2)) (c := bodyAt Tryz.f25 [1, 1, 1, 1, 1, 1, 0, 1, 0, 0]) c (fun (i : Nat) (s : Unit) => (⟨58, [(9, (tS (m50 ((m49 a b).1) (((V.rows c).length : Nat) : Int)).1)), (44, (tL (V.rows c))), (45, (tI (((V.rows c).length : Nat) : Int))), (46, (tI ((i : Nat) : Int)))], []⟩ : St)) (fun (i : Nat) (s : Unit) => (⟨58, [], []⟩ : St)) (fun (r : Int) => (⟨58, [(6, (tI r))], []⟩ : St)) (m25_b1 a b c) (fun (i : Nat) (s : Unit) => (True : Prop)) () trivial (by kernel_rfl) (by simp) ?_ ?_
     ·intro s hI
      exact wo (show run TP 99 (bodyAt Tryz.f25 [1, 1, 1, 1, 1, 1, 0, 1, 0, 0]) ⟨58, [(9, (tS (m50 ((m49 a b).1) (((V.rows c).length : Nat) : Int)).1)), (44, (tL (V.rows c))), (45, (tI (((V.rows c).length : Nat) : Int))), (46, (tI ((c.length : Nat) : Int)))], []⟩ [rg [9, 44, 45, 46, 47] [], b0 [] []] = some ⟨(.exit 2), ⟨58, [], []⟩, [], [], [(decide (((c.length : Nat) : Int) < (((V.rows c).length : Nat) : Int))) = false]⟩ by kernel_rfl) (pc (lt_ff (V.rows_length _)) pn) cn
     ·intro i x s hx hi hI
      cases g4 : (m52 ((((m50 ((m49 a b).1) (((V.rows c).length : Nat) : Int)).1).data.toList.getD (((i : Nat) : Int)).toNat 0).toNat : Int) x)
      ·have hb : (m25_b1 a b c) x i s = .ret 31 := by simp only [m25_b1, g4, cond_true, cond_false]
       rw [hb]
       have hr := wo (show run TP 99 (bodyAt Tryz.f25 [1, 1, 1, 1, 1, 1, 0, 1, 0, 0]) ⟨58, [(9, (tS (m50 ((m49 a b).1) (((V.rows c).length : Nat) : Int)).1)), (44, (tL (V.rows c))), (45, (tI (((V.rows c).length : Nat) : Int))), (46, (tI ((i : Nat) : Int)))], []⟩ [rg [9, 44, 45, 46, 47] [], b1 [9, 44, 45, 46] [], .reg [.cellsT (VC x)] [] [9, 13, 14, 44, 45, 46] [14], .drw [[], [], [], [], [(rr (tB (m52 ((((m50 ((m49 a b).1) (((V.rows c).length : Nat) : Int)).1).data.toList.getD (((i : Nat) : Int)).toNat 0).toNat : Int) x)))], []] [] [9, 44, 45, 46, 56] [], b1 [] [], rg [6] []] = some ⟨.ret, ⟨58, [(6, (tI 31))], []⟩, [], _, [(decide (((i : Nat) : Int) < (((V.rows c).length : Nat) : Int))) = true, (0 : Int) ≤ ((i : Nat) : Int), _, (0 : Int) ≤ ((i : Nat) : Int), ((i : Nat) : Int) < (((m50 ((m49 a b).1) (((V.rows c).length : Nat) : Int)).1).size : Int), _]⟩ by kernel_rfl) (pc (lt_tt hi (V.rows_length _)) (pc (Int.natCast_nonneg _) (pc (V.rows_at hx) (pc (Int.natCast_nonneg _) (pc (by have hk := kinds_size h2; have hl := V.rows_length c; omega) (pc (not_tt g4) pn)))))) (cc (f52_ok ((((m50 ((m49 a b).1) (((V.rows c).length : Nat) : Int)).1).data.toList.getD (((i : Nat) : Int)).toNat 0).toNat : Int) x) cn)
       exact ⟨hr, fun _ _ => trivial⟩
      ·have hb : (m25_b1 a b c) x i s = .next () := by simp only [m25_b1, g4, cond_true, cond_false]
       rw [hb]
       have hr := wo (show run TP 99 (bodyAt Tryz.f25 [1, 1, 1, 1, 1, 1, 0, 1, 0, 0]) ⟨58, [(9, (tS (m50 ((m49 a b).1) (((V.rows c).length : Nat) : Int)).1)), (44, (tL (V.rows c))), (45, (tI (((V.rows c).length : Nat) : Int))), (46, (tI ((i : Nat) : Int)))], []⟩ [rg [9, 44, 45, 46, 47] [], b1 [9, 44, 45, 46] [], .reg [.cellsT (VC x)] [] [9, 13, 14, 44, 45, 46] [14], .drw [[], [], [], [], [(rr (tB (m52 ((((m50 ((m49 a b).1) (((V.rows c).length : Nat) : Int)).1).data.toList.getD (((i : Nat) : Int)).toNat 0).toNat : Int) x)))], []] [] [9, 44, 45, 46, 56] [], b0 [9, 44, 45, 46] [], rg [9, 44, 45, 46] []] = some ⟨.normal, ⟨58, [(9, (tS (m50 ((m49 a b).1) (((V.rows c).length : Nat) : Int)).1)), (44, (tL (V.rows c))), (45, (tI (((V.rows c).length : Nat) : Int))), (46, (tI (IntKind.i64.wrap (((i : Nat) : Int) + 1))))], []⟩, [], _, [(decide (((i : Nat) : Int) < (((V.rows c).length : Nat) : Int))) = true, (0 : Int) ≤ ((i : Nat) : Int), _, (0 : Int) ≤ ((i : Nat) : Int), ((i : Nat) : Int) < (((m50 ((m49 a b).1) (((V.rows c).length : Nat) : Int)).1).size : Int), _]⟩ by kernel_rfl) (pc (lt_tt hi (V.rows_length _)) (pc (Int.natCast_nonneg _) (pc (V.rows_at hx) (pc (Int.natCast_nonneg _) (pc (by have hk := kinds_size h2; have hl := V.rows_length c; omega) (pc (not_ff g4) pn)))))) (cc (f52_ok ((((m50 ((m49 a b).1) (((V.rows c).length : Nat) : Int)).1).data.toList.getD (((i : Nat) : Int)).toNat 0).toNat : Int) x) cn)
       rw [wrap_succ hi hlen] at hr
       exact ⟨hr, fun _ _ => trivial⟩
    cases h4 : (lp (m25_b1 a b c) c 0 ()) with
    | inl q4 => 
     rw [show m25 a b c = q4 by simp only [m25, h1, h2, h3, h4, cond_true, cond_false]]
     rw [h3] at hl1
     rw [h4] at hl2
     exact co Tryz.func25 (by kernel_rfl) (show runF TP 99 Tryz.f25 [(tS a), (tS b), (tL (V.rows c))] [] [] [rg [0, 1, 2] [], .reg [(rr (.tup [(.agg [(tS ((m49 a b).1).name), (tS ((m49 a b).1).takes), (tB ((m49 a b).1).writes)]), (tB (m49 a b).2)]))] [] [2, 7, 8] [7], rg [2, 7, 22] [7], b0 [2, 7] [7], .reg [(rr (.tup [(tS (m50 ((m49 a b).1) (((V.rows c).length : Nat) : Int)).1), (tB (m50 ((m49 a b).1) (((V.rows c).length : Nat) : Int)).2)]))] [] [2, 8, 9] [], rg [2, 9, 31] [], b0 [2, 9] [], rg [2, 9, 32, 33, 34] [], .cut (.exit 0) ⟨58, [(2, (tL (V.rows c))), (9, (tS (m50 ((m49 a b).1) (((V.rows c).length : Nat) : Int)).1))], []⟩, rg [9, 44, 45, 46] [], .cut .ret ⟨58, [(6, (tI q4))], []⟩] = some ⟨.ret (tI q4), [], _, [_, _, _, _]⟩ by kernel_rfl) (pc (not_ff h1) (pc (not_ff h2) (pc hl1 (pc hl2 pn)))) (cc (f49_ok a b) (cc (f50_ok ((m49 a b).1) (((V.rows c).length : Nat) : Int)) cn))
    | inr q4 => 
     rw [show m25 a b c = 0 by simp only [m25, h1, h2, h3, h4, cond_true, cond_false]]
     rw [h3] at hl1
     rw [h4] at hl2
     exact co Tryz.func25 (by kernel_rfl) (show runF TP 99 Tryz.f25 [(tS a), (tS b), (tL (V.rows c))] [] [] [rg [0, 1, 2] [], .reg [(rr (.tup [(.agg [(tS ((m49 a b).1).name), (tS ((m49 a b).1).takes), (tB ((m49 a b).1).writes)]), (tB (m49 a b).2)]))] [] [2, 7, 8] [7], rg [2, 7, 22] [7], b0 [2, 7] [7], .reg [(rr (.tup [(tS (m50 ((m49 a b).1) (((V.rows c).length : Nat) : Int)).1), (tB (m50 ((m49 a b).1) (((V.rows c).length : Nat) : Int)).2)]))] [] [2, 8, 9] [], rg [2, 9, 31] [], b0 [2, 9] [], rg [2, 9, 32, 33, 34] [], .cut (.exit 0) ⟨58, [(2, (tL (V.rows c))), (9, (tS (m50 ((m49 a b).1) (((V.rows c).length : Nat) : Int)).1))], []⟩, rg [9, 44, 45, 46] [], .cut (.exit 2) ⟨58, [], []⟩, rg [6] []] = some ⟨.ret (tI 0), [], _, [_, _, _, _]⟩ by kernel_rfl) (pc (not_ff h1) (pc (not_ff h2) (pc hl1 (pc hl2 pn)))) (cc (f49_ok a b) (cc (f50_ok ((m49 a b).1) (((V.rows c).length : Nat) : Int)) cn))
def m110 (a : (Option Nat)) (b : (Option Nat)) : (Option Nat) :=
 (fa FloatKind.f64.format.sub a b)
theorem f110_ok (a : (Option Nat)) (b : (Option Nat)) : CallOk TP 110 [(tF a), (tF b)] [] (.ret (tF (m110 a b))) [] := by
 rw [show m110 a b = (fa FloatKind.f64.format.sub a b) by simp only [m110]]
 exact co Tryz.func110 (by kernel_rfl) (show runF TP 99 Tryz.f110 [(tF a), (tF b)] [] [] [rg [0, 1] [], rg [4] []] = some ⟨.ret (tF (fa FloatKind.f64.format.sub a b)), [], [], []⟩ by kernel_rfl) pn cn
def m109 (a : Int) (b : Int) : Int × Bool :=
 ((IntKind.i64.wrap (a - b)), ((decide ((IntKind.i64.wrap (a - b)) < a)) == (decide (b > (0 : Int)))))
theorem f109_ok (a : Int) (b : Int) : CallOk TP 109 [(tI a), (tI b)] [] (.ret (.tup [(tI (m109 a b).1), (tB (m109 a b).2)])) [] := by
 rw [show m109 a b = ((IntKind.i64.wrap (a - b)), ((decide ((IntKind.i64.wrap (a - b)) < a)) == (decide (b > (0 : Int))))) by simp only [m109]]
 exact co Tryz.func109 (by kernel_rfl) (show runF TP 99 Tryz.f109 [(tI a), (tI b)] [] [] [rg [0, 1] [], rg [0, 1, 6] [], rg [4, 5] []] = some ⟨.ret (.tup [(tI (IntKind.i64.wrap (a - b))), (tB ((decide ((IntKind.i64.wrap (a - b)) < a)) == (decide (b > (0 : Int)))))]), [], [], []⟩ by kernel_rfl) pn cn
def m106_109_110 (a : V) (b : V) : V × Int :=
 bif (m115 a) then
  bif (m115 b) then
   bif (a.k == (2 : Int)) then
    ((V.mk 2 0 (m53 (m110 (m116 a) (m116 b))) bE []), 0)
   else
    bif (b.k == (2 : Int)) then
     ((V.mk 2 0 (m53 (m110 (m116 a) (m116 b))) bE []), 0)
    else
     bif (m109 a.i b.i).2 then
      ((V.mk 1 ((m109 a.i b.i).1) (some 0) bE []), 0)
     else
      ((V.mk 0 0 (some 0) bE []), 35)
  else
   ((V.mk 0 0 (some 0) bE []), 31)
 else
  ((V.mk 0 0 (some 0) bE []), 31)
theorem f106_109_110_ok (a : V) (b : V) : CallOk TP 106 [(VM a), (VM b), (.clo 109 []), (.clo 110 [])] [] (.ret (.tup [(VM ((m106_109_110 a b).1)), (tI (m106_109_110 a b).2)])) [] := by
 cases h1 : (m115 a)
 ·rw [show m106_109_110 a b = ((V.mk 0 0 (some 0) bE []), 31) by simp only [m106_109_110, h1, cond_true, cond_false]]
  exact co Tryz.func106 (by kernel_rfl) (show runF TP 99 Tryz.f106 [(VM a), (VM b), (.clo 109 []), (.clo 110 [])] [] [] [rg [2, 3, 4, 5, 8] [4, 5, 8], .reg [(rr (tB (m115 a))), .bit true] [] [2, 3, 4, 5, 8, 12] [4, 5, 8], b1 [8] [8], rg [8, 9] [8]] = some ⟨.ret (.tup [(.agg [(tI 0), (tI 0), (tF (some 0)), (tS bE), (tL [])]), (tI 31)]), [], _, [_, true = true]⟩ by kernel_rfl) (pc (not_tt h1) (pc rfl pn)) (cc (f115_ok a) cn)
 ·cases h2 : (m115 b)
  ·rw [show m106_109_110 a b = ((V.mk 0 0 (some 0) bE []), 31) by simp only [m106_109_110, h1, h2, cond_true, cond_false]]
   exact co Tryz.func106 (by kernel_rfl) (show runF TP 99 Tryz.f106 [(VM a), (VM b), (.clo 109 []), (.clo 110 [])] [] [] [rg [2, 3, 4, 5, 8] [4, 5, 8], .reg [(rr (tB (m115 a))), .bit false, (rr (tB (m115 b)))] [] [2, 3, 4, 5, 8, 12] [4, 5, 8], b1 [8] [8], rg [8, 9] [8]] = some ⟨.ret (.tup [(.agg [(tI 0), (tI 0), (tF (some 0)), (tS bE), (tL [])]), (tI 31)]), [], _, [_, _]⟩ by kernel_rfl) (pc (not_ff h1) (pc (not_tt h2) pn)) (cc (f115_ok a) (cc (f115_ok b) cn))
  ·cases h3 : (a.k == (2 : Int))
   ·cases h4 : (b.k == (2 : Int))
    ·cases h5 : (m109 a.i b.i).2
     ·rw [show m106_109_110 a b = ((V.mk 0 0 (some 0) bE []), 35) by simp only [m106_109_110, h1, h2, h3, h4, h5, cond_true, cond_false]]
      exact co Tryz.func106 (by kernel_rfl) (show runF TP 99 Tryz.f106 [(VM a), (VM b), (.clo 109 []), (.clo 110 [])] [] [] [rg [2, 3, 4, 5, 8] [4, 5, 8], .reg [(rr (tB (m115 a))), .bit false, (rr (tB (m115 b)))] [] [2, 3, 4, 5, 8, 12] [4, 5, 8], b0 [2, 3, 4, 5, 8] [4, 5, 8], .reg [.bit false] [] [2, 3, 4, 5, 8, 22] [4, 5, 8], b0 [2, 4, 5, 8] [4, 5, 8], .reg [(rr (.tup [(tI (m109 a.i b.i).1), (tB (m109 a.i b.i).2)]))] [] [8, 10, 11] [8], rg [8, 10, 49] [8], b1 [8] [8], rg [8, 9] [8]] = some ⟨.ret (.tup [(.agg [(tI 0), (tI 0), (tF (some 0)), (tS bE), (tL [])]), (tI 35)]), [], _, [_, _, _, _, _]⟩ by kernel_rfl) (pc (not_ff h1) (pc (not_ff h2) (pc h3 (pc h4 (pc (not_tt h5) pn))))) (cc (f115_ok a) (cc (f115_ok b) (cc (f109_ok a.i b.i) cn)))
     ·rw [show m106_109_110 a b = ((V.mk 1 ((m109 a.i b.i).1) (some 0) bE []), 0) by simp only [m106_109_110, h1, h2, h3, h4, h5, cond_true, cond_false]]
      exact co Tryz.func106 (by kernel_rfl) (show runF TP 99 Tryz.f106 [(VM a), (VM b), (.clo 109 []), (.clo 110 [])] [] [] [rg [2, 3, 4, 5, 8] [4, 5, 8], .reg [(rr (tB (m115 a))), .bit false, (rr (tB (m115 b)))] [] [2, 3, 4, 5, 8, 12] [4, 5, 8], b0 [2, 3, 4, 5, 8] [4, 5, 8], .reg [.bit false] [] [2, 3, 4, 5, 8, 22] [4, 5, 8], b0 [2, 4, 5, 8] [4, 5, 8], .reg [(rr (.tup [(tI (m109 a.i b.i).1), (tB (m109 a.i b.i).2)]))] [] [8, 10, 11] [8], rg [8, 10, 49] [8], b0 [8, 10] [8], rg [8, 9] [8]] = some ⟨.ret (.tup [(.agg [(tI 1), (tI (m109 a.i b.i).1), (tF (some 0)), (tS bE), (tL [])]), (tI 0)]), [], _, [_, _, _, _, _]⟩ by kernel_rfl) (pc (not_ff h1) (pc (not_ff h2) (pc h3 (pc h4 (pc (not_ff h5) pn))))) (cc (f115_ok a) (cc (f115_ok b) (cc (f109_ok a.i b.i) cn)))
    ·rw [show m106_109_110 a b = ((V.mk 2 0 (m53 (m110 (m116 a) (m116 b))) bE []), 0) by simp only [m106_109_110, h1, h2, h3, h4, cond_true, cond_false]]
     exact co Tryz.func106 (by kernel_rfl) (show runF TP 99 Tryz.f106 [(VM a), (VM b), (.clo 109 []), (.clo 110 [])] [] [] [rg [2, 3, 4, 5, 8] [4, 5, 8], .reg [(rr (tB (m115 a))), .bit false, (rr (tB (m115 b)))] [] [2, 3, 4, 5, 8, 12] [4, 5, 8], b0 [2, 3, 4, 5, 8] [4, 5, 8], .reg [.bit false] [] [2, 3, 4, 5, 8, 22] [4, 5, 8], b1 [3, 4, 5, 8] [4, 5, 8], .drw [[], [], [(rr (tF (m116 a)))], [], [(rr (tF (m116 b)))], [(rr (tF (m110 (m116 a) (m116 b))))], [(rr (tF (m53 (m110 (m116 a) (m116 b)))))], [], [], []] [] [8, 9] [8]] = some ⟨.ret (.tup [(.agg [(tI 2), (tI 0), (tF (m53 (m110 (m116 a) (m116 b)))), (tS bE), (tL [])]), (tI 0)]), [], _, [_, _, _, _]⟩ by kernel_rfl) (pc (not_ff h1) (pc (not_ff h2) (pc h3 (pc h4 pn)))) (cc (f115_ok a) (cc (f115_ok b) (cc (f116_ok a) (cc (f116_ok b) (cc (f110_ok (m116 a) (m116 b)) (cc (f53_ok (m110 (m116 a) (m116 b))) cn))))))
   ·rw [show m106_109_110 a b = ((V.mk 2 0 (m53 (m110 (m116 a) (m116 b))) bE []), 0) by simp only [m106_109_110, h1, h2, h3, cond_true, cond_false]]
    exact co Tryz.func106 (by kernel_rfl) (show runF TP 99 Tryz.f106 [(VM a), (VM b), (.clo 109 []), (.clo 110 [])] [] [] [rg [2, 3, 4, 5, 8] [4, 5, 8], .reg [(rr (tB (m115 a))), .bit false, (rr (tB (m115 b)))] [] [2, 3, 4, 5, 8, 12] [4, 5, 8], b0 [2, 3, 4, 5, 8] [4, 5, 8], .reg [.bit true] [] [2, 3, 4, 5, 8, 22] [4, 5, 8], b1 [3, 4, 5, 8] [4, 5, 8], .drw [[], [], [(rr (tF (m116 a)))], [], [(rr (tF (m116 b)))], [(rr (tF (m110 (m116 a) (m116 b))))], [(rr (tF (m53 (m110 (m116 a) (m116 b)))))], [], [], []] [] [8, 9] [8]] = some ⟨.ret (.tup [(.agg [(tI 2), (tI 0), (tF (m53 (m110 (m116 a) (m116 b)))), (tS bE), (tL [])]), (tI 0)]), [], _, [_, _, _, true = true]⟩ by kernel_rfl) (pc (not_ff h1) (pc (not_ff h2) (pc h3 (pc rfl pn)))) (cc (f115_ok a) (cc (f115_ok b) (cc (f116_ok a) (cc (f116_ok b) (cc (f110_ok (m116 a) (m116 b)) (cc (f53_ok (m110 (m116 a) (m116 b))) cn))))))
def m90 (a : V) (b : V) : V × Int :=
 (((m106_109_110 a b).1), (m106_109_110 a b).2)
theorem f90_ok (a : V) (b : V) : CallOk TP 90 [(VM a), (VM b)] [] (.ret (.tup [(VM ((m90 a b).1)), (tI (m90 a b).2)])) [] := by
 rw [show m90 a b = (((m106_109_110 a b).1), (m106_109_110 a b).2) by simp only [m90]]
 exact co Tryz.func90 (by kernel_rfl) (show runF TP 99 Tryz.f90 [(VM a), (VM b)] [] [] [rg [2, 3, 4] [2, 3, 4], .reg [(rr (.tup [(VM ((m106_109_110 a b).1)), (tI (m106_109_110 a b).2)]))] [] [4, 5] [4]] = some ⟨.ret (.tup [(VM ((m106_109_110 a b).1)), (tI (m106_109_110 a b).2)]), [], _, []⟩ by kernel_rfl) pn (cc (f106_109_110_ok a b) cn)
def m113 (a : ByteArray) (b : ByteArray) : Int :=
 (m117 a b)
theorem f113_ok (a : ByteArray) (b : ByteArray) : CallOk TP 113 [(tS a), (tS b)] [] (.ret (tI (m113 a b))) [] := by
 rw [show m113 a b = (m117 a b) by simp only [m113]]
 exact co Tryz.func113 (by kernel_rfl) (show runF TP 99 Tryz.f113 [(tS a), (tS b)] [] [] [rg [0, 1] [], .reg [(rr (tI (m117 a b)))] [] [4] []] = some ⟨.ret (tI (m117 a b)), [], _, []⟩ by kernel_rfl) pn (cc (f117_ok a b) cn)
def m103 (a : ByteArray) (b : ByteArray) : Int :=
 (m113 a b)
theorem f103_ok (a : ByteArray) (b : ByteArray) : CallOk TP 103 [(tS a), (tS b)] [] (.ret (tI (m103 a b))) [] := by
 rw [show m103 a b = (m113 a b) by simp only [m103]]
 exact co Tryz.func103 (by kernel_rfl) (show runF TP 99 Tryz.f103 [(tS a), (tS b)] [] [] [rg [0, 1] [], .reg [(rr (tI (m113 a b)))] [] [4] []] = some ⟨.ret (tI (m113 a b)), [], _, []⟩ by kernel_rfl) pn (cc (f113_ok a b) cn)
def m11 (a : Int) : ByteArray :=
 bif (decide ((Int.tmod (IntKind.i64.wrap a) (IntKind.i64.wrap ((((Str.rows (m24 (ByteArray.mk #[108, 101, 100, 103, 101, 114]))).length : Nat) : Int) + 1))) < (((Str.rows (m24 (ByteArray.mk #[108, 101, 100, 103, 101, 114]))).length : Nat) : Int))) then
  ((m24 (ByteArray.mk #[108, 101, 100, 103, 101, 114]))[((Int.tmod (IntKind.i64.wrap a) (IntKind.i64.wrap ((((Str.rows (m24 (ByteArray.mk #[108, 101, 100, 103, 101, 114]))).length : Nat) : Int) + 1))) : Int).toNat]?.getD default)
 else
  (ByteArray.mk #[110, 111, 112, 101])
theorem f11_ok (a : Int) (hq : 0 ≤ a ∧ a < 256) : CallOk TP 11 [(.t (.s (.int .u8 a)))] [] (.ret (tS (m11 a))) [] := by
 cases h1 : (decide ((Int.tmod (IntKind.i64.wrap a) (IntKind.i64.wrap ((((Str.rows (m24 (ByteArray.mk #[108, 101, 100, 103, 101, 114]))).length : Nat) : Int) + 1))) < (((Str.rows (m24 (ByteArray.mk #[108, 101, 100, 103, 101, 114]))).length : Nat) : Int)))
 ·rw [show m11 a = (ByteArray.mk #[110, 111, 112, 101]) by simp only [m11, h1, cond_true, cond_false]]
  exact co Tryz.func11 (by kernel_rfl) (show runF TP 99 Tryz.f11 [(.t (.s (.int .u8 a)))] [] [] [rg [0] [], .reg [(rr (tL (Str.rows (m24 (ByteArray.mk #[108, 101, 100, 103, 101, 114])))))] [] [0, 3] [], rg [0, 3, 13] [], b0 [] [], rg [2] []] = some ⟨.ret (tS (ByteArray.mk #[110, 111, 112, 101])), [], _, [(IntKind.i64.wrap ((((Str.rows (m24 (ByteArray.mk #[108, 101, 100, 103, 101, 114]))).length : Nat) : Int) + 1)) ≠ 0, _]⟩ by kernel_rfl) (pc (by rw [Str.rows_length, m24_len]; decide) (pc h1 pn)) (cc (f24_ok (ByteArray.mk #[108, 101, 100, 103, 101, 114])) cn)
 ·rw [show m11 a = ((m24 (ByteArray.mk #[108, 101, 100, 103, 101, 114]))[((Int.tmod (IntKind.i64.wrap a) (IntKind.i64.wrap ((((Str.rows (m24 (ByteArray.mk #[108, 101, 100, 103, 101, 114]))).length : Nat) : Int) + 1))) : Int).toNat]?.getD default) by simp only [m11, h1, cond_true, cond_false]]
  exact co Tryz.func11 (by kernel_rfl) (show runF TP 99 Tryz.f11 [(.t (.s (.int .u8 a)))] [] [] [rg [0] [], .reg [(rr (tL (Str.rows (m24 (ByteArray.mk #[108, 101, 100, 103, 101, 114])))))] [] [0, 3] [], rg [0, 3, 13] [], b1 [0, 3] [], .reg [.cellsT [(sS ((m24 (ByteArray.mk #[108, 101, 100, 103, 101, 114]))[((Int.tmod (IntKind.i64.wrap a) (IntKind.i64.wrap ((((Str.rows (m24 (ByteArray.mk #[108, 101, 100, 103, 101, 114]))).length : Nat) : Int) + 1))) : Int).toNat]?.getD default))]] [] [2] []] = some ⟨.ret (tS ((m24 (ByteArray.mk #[108, 101, 100, 103, 101, 114]))[((Int.tmod (IntKind.i64.wrap a) (IntKind.i64.wrap ((((Str.rows (m24 (ByteArray.mk #[108, 101, 100, 103, 101, 114]))).length : Nat) : Int) + 1))) : Int).toNat]?.getD default)), [], _, [(IntKind.i64.wrap ((((Str.rows (m24 (ByteArray.mk #[108, 101, 100, 103, 101, 114]))).length : Nat) : Int) + 1)) ≠ 0, _, (IntKind.i64.wrap ((((Str.rows (m24 (ByteArray.mk #[108, 101, 100, 103, 101, 114]))).length : Nat) : Int) + 1)) ≠ 0, (0 : Int) ≤ (Int.tmod (IntKind.i64.wrap a) (IntKind.i64.wrap ((((Str.rows (m24 (ByteArray.mk #[108, 101, 100, 103, 101, 114]))).length : Nat) : Int) + 1))), (Str.rows (m24 (ByteArray.mk #[108, 101, 100, 103, 101, 114])))[((Int.tmod (IntKind.i64.wrap a) (IntKind.i64.wrap ((((Str.rows (m24 (ByteArray.mk #[108, 101, 100, 103, 101, 114]))).length : Nat) : Int) + 1))) : Int).toNat]? = some [(sS ((m24 (ByteArray.mk #[108, 101, 100, 103, 101, 114]))[((Int.tmod (IntKind.i64.wrap a) (IntKind.i64.wrap ((((Str.rows (m24 (ByteArray.mk #[108, 101, 100, 103, 101, 114]))).length : Nat) : Int) + 1))) : Int).toNat]?.getD default))]]⟩ by kernel_rfl) (pc (by rw [Str.rows_length, m24_len]; decide) (pc h1 (pc (by rw [Str.rows_length, m24_len]; decide) (pc (by rw [mod8 hq]; omega) (pc (pickI Str.rows_get (by rw [mod8 hq, m24_len]; have h2 := of_decide_eq_true h1; rw [mod8 hq, Str.rows_length, m24_len] at h2; omega)) pn))))) (cc (f24_ok (ByteArray.mk #[108, 101, 100, 103, 101, 114])) cn)
def m102 (a : V) (b : ByteArray) : Int :=
 (m103 (m41 a) b)
theorem f102_ok (a : V) (b : ByteArray) (hp : 0 < a.l.length) : CallOk TP 102 [(VM a), (tS b)] [] (.ret (tI (m102 a b))) [] := by
 rw [show m102 a b = (m103 (m41 a) b) by simp only [m102]]
 exact co Tryz.func102 (by kernel_rfl) (show runF TP 99 Tryz.f102 [(VM a), (tS b)] [] [] [rg [1, 2] [2], .reg [(rr (tS (m41 a))), (rr (tI (m103 (m41 a) b)))] [] [4] []] = some ⟨.ret (tI (m103 (m41 a) b)), [], _, []⟩ by kernel_rfl) pn (cc (f41_ok a hp) (cc (f103_ok (m41 a) b) cn))
def m101_102_b0 (a : (List V)) (b : ByteArray) (s : Int × Int) : Rd (Empty) (Int × Int) :=
 bif (decide (s.1 < s.2)) then
  bif (decide ((m102 (a[((IntKind.i64.wrap (Int.fdiv (IntKind.u64.wrap (IntKind.i64.wrap (s.1 + s.2))) (2 ^ (min (1 : Int).toNat IntKind.u64.bits)))) : Int).toNat]?.getD default) b) < (0 : Int))) then
   .next ((IntKind.i64.wrap ((IntKind.i64.wrap (Int.fdiv (IntKind.u64.wrap (IntKind.i64.wrap (s.1 + s.2))) (2 ^ (min (1 : Int).toNat IntKind.u64.bits)))) + 1)), s.2)
  else
   .next (s.1, (IntKind.i64.wrap (Int.fdiv (IntKind.u64.wrap (IntKind.i64.wrap (s.1 + s.2))) (2 ^ (min (1 : Int).toNat IntKind.u64.bits)))))
 else
  .out (s.1, s.2)
theorem mid101_102 {i j : Int} (h0 : 0 ≤ i) (h1 : i < j) (h2 : j ≤ 274877906944) : (IntKind.i64.wrap (Int.fdiv (IntKind.u64.wrap (IntKind.i64.wrap (i + j))) (2 ^ (min (1 : Int).toNat IntKind.u64.bits)))) = (i + j) / 2 := by
 have e1 : IntKind.i64.wrap (i + j) = i + j := by rw [IntKind.wrap_i64]; omega
 have e2 : IntKind.u64.wrap (i + j) = i + j := by
  have e : IntKind.u64.wrap (i + j) = (i + j) % 18446744073709551616 := by simp [IntKind.wrap, IntKind.signed, IntKind.bits]
  rw [e]; omega
 have e3 : (2 : Int) ^ (min (1 : Int).toNat IntKind.u64.bits) = 2 := by decide
 rw [e1, e2, e3, Int.fdiv_eq_ediv_of_nonneg _ (by decide), IntKind.wrap_i64]
 omega
theorem bs101_102_init (a : List V) : 0 ≤ ((0 : Int), (((V.rows a).length : Nat) : Int)).1 ∧ ((0 : Int), (((V.rows a).length : Nat) : Int)).1 ≤ ((0 : Int), (((V.rows a).length : Nat) : Int)).2 ∧ ((0 : Int), (((V.rows a).length : Nat) : Int)).2 ≤ ((a.length : Nat) : Int) := by
 rw [V.rows_length]
 exact ⟨Int.le_refl 0, Int.natCast_nonneg _, Int.le_refl _⟩
theorem bs101_102_step (a : List V) (b : ByteArray) (s s1 : Int × Int) (hl : a.length ≤ 274877906944) (hI : 0 ≤ s.1 ∧ s.1 ≤ s.2 ∧ s.2 ≤ ((a.length : Nat) : Int)) (h : m101_102_b0 a b s = .next s1) :
  (0 ≤ s1.1 ∧ s1.1 ≤ s1.2 ∧ s1.2 ≤ ((a.length : Nat) : Int)) ∧ (s1.2 - s1.1).toNat < (s.2 - s.1).toNat := by
 unfold m101_102_b0 at h
 cases g : decide (s.1 < s.2)
 ·rw [g] at h; cases h
 ·rw [g] at h
  simp only [cond_true] at h
  have g' := of_decide_eq_true g
  rw [mid101_102 hI.1 g' (by omega)] at h
  cases hd : decide (m102 (a[((s.1 + s.2) / 2).toNat]?.getD default) b < (0 : Int))
  ·rw [hd] at h; cases h; simp only; omega
  ·rw [hd] at h; cases h; simp only
   have e : IntKind.i64.wrap ((s.1 + s.2) / 2 + 1) = (s.1 + s.2) / 2 + 1 := by rw [IntKind.wrap_i64]; omega
   rw [e]; omega
theorem bs101_102_out (a : List V) (b : ByteArray) (s s1 : Int × Int) (h : m101_102_b0 a b s = .out s1) : s1 = s := by
 unfold m101_102_b0 at h
 cases g : decide (s.1 < s.2)
 ·rw [g] at h; cases h; rfl
 ·rw [g] at h
  simp only [cond_true] at h
  cases hd : decide (m102 (a[((IntKind.i64.wrap (Int.fdiv (IntKind.u64.wrap (IntKind.i64.wrap (s.1 + s.2))) (2 ^ (min (1 : Int).toNat IntKind.u64.bits)))) : Int).toNat]?.getD default) b < (0 : Int))
  ·rw [hd] at h; cases h
  ·rw [hd] at h; cases h
theorem bs101_102_inv (a : List V) (b : ByteArray) (hl : a.length ≤ 274877906944) : ∀ (n : Nat) (s q : Int × Int), wh (m101_102_b0 a b) n s = .inr q → (0 ≤ s.1 ∧ s.1 ≤ s.2 ∧ s.2 ≤ ((a.length : Nat) : Int)) → 0 ≤ q.1 ∧ q.1 ≤ q.2 ∧ q.2 ≤ ((a.length : Nat) : Int)
 | 0, s, q, h, hI => by simp only [wh, Sum.inr.injEq] at h; subst h; exact hI
 | n + 1, s, q, h, hI => by
  simp only [wh] at h
  cases hb : m101_102_b0 a b s with
  | next s1 => rw [hb] at h; exact bs101_102_inv a b hl n s1 q h (bs101_102_step a b s s1 hl hI hb).1
  | out s1 => rw [hb] at h; cases h; rw [bs101_102_out a b s q hb]; exact hI
  | ret r => exact r.elim
theorem bs101_102_term (a : List V) (b : ByteArray) (hl : a.length ≤ 274877906944) : whD (m101_102_b0 a b) (a.length + 1) (0, (((V.rows a).length : Nat) : Int)) = true :=
 whD_of (fun s => 0 ≤ s.1 ∧ s.1 ≤ s.2 ∧ s.2 ≤ ((a.length : Nat) : Int)) (fun s => (s.2 - s.1).toNat) (fun s s' hI h => bs101_102_step a b s s' hl hI h) _ _ (bs101_102_init a) (by rw [V.rows_length]; show ((a.length : Nat) - (0 : Int)).toNat < _; omega)
def m101_102 (a : (List V)) (b : ByteArray) : Int × Bool :=
 match (wh (m101_102_b0 a b) (a.length + 1) (0, (((V.rows a).length : Nat) : Int))) with
 | .inl q1 => q1.elim
 | .inr q1 => (
  bif (decide (q1.1 < (((V.rows a).length : Nat) : Int))) then
   (q1.1, ((m102 (a[(q1.1 : Int).toNat]?.getD default) b) == (0 : Int)))
  else
   (q1.1, false))
theorem f101_102_ok (a : (List V)) (b : ByteArray) (hp : ∀ x ∈ a, 0 < x.l.length) : CallOk TP 101 [(tL (V.rows a)), (tS b), (.clo 102 [])] [] (.ret (.tup [(tI (m101_102 a b).1), (tB (m101_102 a b).2)])) [] := by
 refine CallOk.short fun hsh => ?_
 have hl1 : W TP (bodyAt Tryz.f101 [1, 1, 1, 0, 0]) ⟨49, [(0, (tL (V.rows a))), (1, (tS b)), (2, (.clo 102 [])), (8, (tI (((V.rows a).length : Nat) : Int))), (9, (tI 0)), (10, (tI (((V.rows a).length : Nat) : Int)))], []⟩ (whPost (fun (s : Int × Int) => (⟨49, [(0, (tL (V.rows a))), (1, (tS b)), (2, (.clo 102 [])), (8, (tI (((V.rows a).length : Nat) : Int))), (9, (tI s.1))], []⟩ : St)) (fun (r : Empty) => r.elim) (.exit 0) (wh (m101_102_b0 a b) (a.length + 1) (0, (((V.rows a).length : Nat) : Int)))) := by
  refine wh_W (e := (.exit 0)) (c := bodyAt Tryz.f101 [1, 1, 1, 0, 0, 0]) (fun (s : Int × Int) => (⟨49, [(0, (tL (V.rows a))), (1, (tS b)), (2, (.clo 102 [])), (8, (tI (((V.rows a).length : Nat) : Int))), (9, (tI s.1)), (10, (tI s.2))], []⟩ : St)) (fun (s : Int × Int) => (⟨49, [(0, (tL (V.rows a))), (1, (tS b)), (2, (.clo 102 [])), (8, (tI (((V.rows a).length : Nat) : Int))), (9, (tI s.1))], []⟩ : St)) (fun (r : Empty) => r.elim) (m101_102_b0 a b) (fun (s : Int × Int) => (0 ≤ s.1 ∧ s.1 ≤ s.2 ∧ s.2 ≤ ((a.length : Nat) : Int) : Prop)) (a.length + 1) (0, (((V.rows a).length : Nat) : Int)) (bs101_102_init a) (bs101_102_term a b (V.len hsh.1)) (by kernel_rfl) (by simp) ?_
  intro s hI
  cases g1 : (decide (s.1 < s.2))
  ·have hb : (m101_102_b0 a b) s = .out (s.1, s.2) := by simp only [m101_102_b0, g1, cond_true, cond_false]
   rw [hb]
   have hr := wo (show run TP 99 (bodyAt Tryz.f101 [1, 1, 1, 0, 0, 0]) ⟨49, [(0, (tL (V.rows a))), (1, (tS b)), (2, (.clo 102 [])), (8, (tI (((V.rows a).length : Nat) : Int))), (9, (tI s.1)), (10, (tI s.2))], []⟩ [rg [0, 1, 2, 8, 9, 10, 17] [], b0 [0, 1, 2, 8, 9] []] = some ⟨(.exit 0), ⟨49, [(0, (tL (V.rows a))), (1, (tS b)), (2, (.clo 102 [])), (8, (tI (((V.rows a).length : Nat) : Int))), (9, (tI s.1))], []⟩, [], [], [_]⟩ by kernel_rfl) (pc g1 pn) cn
   exact ⟨hr, fun _ h => by cases h⟩
  ·cases g2 : (decide ((m102 (a[((IntKind.i64.wrap (Int.fdiv (IntKind.u64.wrap (IntKind.i64.wrap (s.1 + s.2))) (2 ^ (min (1 : Int).toNat IntKind.u64.bits)))) : Int).toNat]?.getD default) b) < (0 : Int)))
   ·have hb : (m101_102_b0 a b) s = .next (s.1, (IntKind.i64.wrap (Int.fdiv (IntKind.u64.wrap (IntKind.i64.wrap (s.1 + s.2))) (2 ^ (min (1 : Int).toNat IntKind.u64.bits))))) := by simp only [m101_102_b0, g1, g2, cond_true, cond_false]
    rw [hb]
    have hr := wo (show run TP 99 (bodyAt Tryz.f101 [1, 1, 1, 0, 0, 0]) ⟨49, [(0, (tL (V.rows a))), (1, (tS b)), (2, (.clo 102 [])), (8, (tI (((V.rows a).length : Nat) : Int))), (9, (tI s.1)), (10, (tI s.2))], []⟩ [rg [0, 1, 2, 8, 9, 10, 17] [], b1 [0, 1, 2, 8, 9, 10] [], rg [0, 1, 2, 8, 9, 10, 11] [], .reg [.cellsT (VC (a[((IntKind.i64.wrap (Int.fdiv (IntKind.u64.wrap (IntKind.i64.wrap (s.1 + s.2))) (2 ^ (min (1 : Int).toNat IntKind.u64.bits)))) : Int).toNat]?.getD default)), (rr (tI (m102 (a[((IntKind.i64.wrap (Int.fdiv (IntKind.u64.wrap (IntKind.i64.wrap (s.1 + s.2))) (2 ^ (min (1 : Int).toNat IntKind.u64.bits)))) : Int).toNat]?.getD default) b)))] [] [0, 1, 2, 8, 9, 10, 11, 31] [], b0 [0, 1, 2, 8, 9, 11] [], rg [0, 1, 2, 8, 9, 10] []] = some ⟨.normal, ⟨49, [(0, (tL (V.rows a))), (1, (tS b)), (2, (.clo 102 [])), (8, (tI (((V.rows a).length : Nat) : Int))), (9, (tI s.1)), (10, (tI (IntKind.i64.wrap (Int.fdiv (IntKind.u64.wrap (IntKind.i64.wrap (s.1 + s.2))) (2 ^ (min (1 : Int).toNat IntKind.u64.bits))))))], []⟩, [], _, [_, (0 : Int) ≤ 1, (0 : Int) ≤ (IntKind.i64.wrap (Int.fdiv (IntKind.u64.wrap (IntKind.i64.wrap (s.1 + s.2))) (2 ^ (min (1 : Int).toNat IntKind.u64.bits)))), (V.rows a)[((IntKind.i64.wrap (Int.fdiv (IntKind.u64.wrap (IntKind.i64.wrap (s.1 + s.2))) (2 ^ (min (1 : Int).toNat IntKind.u64.bits)))) : Int).toNat]? = some (VC (a[((IntKind.i64.wrap (Int.fdiv (IntKind.u64.wrap (IntKind.i64.wrap (s.1 + s.2))) (2 ^ (min (1 : Int).toNat IntKind.u64.bits)))) : Int).toNat]?.getD default)), _]⟩ by kernel_rfl) (pc g1 (pc (by decide) (pc (by rw [mid101_102 hI.1 (of_decide_eq_true g1) (by have := V.len hsh.1; omega)]; have := of_decide_eq_true g1; omega) (pc (pickI V.rows_get (by rw [mid101_102 hI.1 (of_decide_eq_true g1) (by have := V.len hsh.1; omega)]; have := of_decide_eq_true g1; omega)) (pc g2 pn))))) (cc (f102_ok (a[((IntKind.i64.wrap (Int.fdiv (IntKind.u64.wrap (IntKind.i64.wrap (s.1 + s.2))) (2 ^ (min (1 : Int).toNat IntKind.u64.bits)))) : Int).toNat]?.getD default) b (hp _ (getD_mem (by rw [mid101_102 hI.1 (of_decide_eq_true g1) (by have := V.len hsh.1; omega)]; have := of_decide_eq_true g1; omega)))) cn)
    exact ⟨hr, fun s1 hs1 => by cases hs1; exact (bs101_102_step a b s _ (V.len hsh.1) hI hb).1⟩
   ·have hb : (m101_102_b0 a b) s = .next ((IntKind.i64.wrap ((IntKind.i64.wrap (Int.fdiv (IntKind.u64.wrap (IntKind.i64.wrap (s.1 + s.2))) (2 ^ (min (1 : Int).toNat IntKind.u64.bits)))) + 1)), s.2) := by simp only [m101_102_b0, g1, g2, cond_true, cond_false]
    rw [hb]
    have hr := wo (show run TP 99 (bodyAt Tryz.f101 [1, 1, 1, 0, 0, 0]) ⟨49, [(0, (tL (V.rows a))), (1, (tS b)), (2, (.clo 102 [])), (8, (tI (((V.rows a).length : Nat) : Int))), (9, (tI s.1)), (10, (tI s.2))], []⟩ [rg [0, 1, 2, 8, 9, 10, 17] [], b1 [0, 1, 2, 8, 9, 10] [], rg [0, 1, 2, 8, 9, 10, 11] [], .reg [.cellsT (VC (a[((IntKind.i64.wrap (Int.fdiv (IntKind.u64.wrap (IntKind.i64.wrap (s.1 + s.2))) (2 ^ (min (1 : Int).toNat IntKind.u64.bits)))) : Int).toNat]?.getD default)), (rr (tI (m102 (a[((IntKind.i64.wrap (Int.fdiv (IntKind.u64.wrap (IntKind.i64.wrap (s.1 + s.2))) (2 ^ (min (1 : Int).toNat IntKind.u64.bits)))) : Int).toNat]?.getD default) b)))] [] [0, 1, 2, 8, 9, 10, 11, 31] [], b1 [0, 1, 2, 8, 10, 11] [], rg [0, 1, 2, 8, 9, 10] []] = some ⟨.normal, ⟨49, [(0, (tL (V.rows a))), (1, (tS b)), (2, (.clo 102 [])), (8, (tI (((V.rows a).length : Nat) : Int))), (9, (tI (IntKind.i64.wrap ((IntKind.i64.wrap (Int.fdiv (IntKind.u64.wrap (IntKind.i64.wrap (s.1 + s.2))) (2 ^ (min (1 : Int).toNat IntKind.u64.bits)))) + 1)))), (10, (tI s.2))], []⟩, [], _, [_, (0 : Int) ≤ 1, (0 : Int) ≤ (IntKind.i64.wrap (Int.fdiv (IntKind.u64.wrap (IntKind.i64.wrap (s.1 + s.2))) (2 ^ (min (1 : Int).toNat IntKind.u64.bits)))), (V.rows a)[((IntKind.i64.wrap (Int.fdiv (IntKind.u64.wrap (IntKind.i64.wrap (s.1 + s.2))) (2 ^ (min (1 : Int).toNat IntKind.u64.bits)))) : Int).toNat]? = some (VC (a[((IntKind.i64.wrap (Int.fdiv (IntKind.u64.wrap (IntKind.i64.wrap (s.1 + s.2))) (2 ^ (min (1 : Int).toNat IntKind.u64.bits)))) : Int).toNat]?.getD default)), _]⟩ by kernel_rfl) (pc g1 (pc (by decide) (pc (by rw [mid101_102 hI.1 (of_decide_eq_true g1) (by have := V.len hsh.1; omega)]; have := of_decide_eq_true g1; omega) (pc (pickI V.rows_get (by rw [mid101_102 hI.1 (of_decide_eq_true g1) (by have := V.len hsh.1; omega)]; have := of_decide_eq_true g1; omega)) (pc g2 pn))))) (cc (f102_ok (a[((IntKind.i64.wrap (Int.fdiv (IntKind.u64.wrap (IntKind.i64.wrap (s.1 + s.2))) (2 ^ (min (1 : Int).toNat IntKind.u64.bits)))) : Int).toNat]?.getD default) b (hp _ (getD_mem (by rw [mid101_102 hI.1 (of_decide_eq_true g1) (by have := V.len hsh.1; omega)]; have := of_decide_eq_true g1; omega)))) cn)
    exact ⟨hr, fun s1 hs1 => by cases hs1; exact (bs101_102_step a b s _ (V.len hsh.1) hI hb).1⟩
 cases h1 : (wh (m101_102_b0 a b) (a.length + 1) (0, (((V.rows a).length : Nat) : Int))) with
 | inl q1 => exact q1.elim
 | inr q1 => 
  cases h2 : (decide (q1.1 < (((V.rows a).length : Nat) : Int)))
  ·rw [show m101_102 a b = (q1.1, false) by simp only [m101_102, h1, h2, cond_true, cond_false]]
   rw [h1] at hl1
   exact co Tryz.func101 (by kernel_rfl) (show runF TP 99 Tryz.f101 [(tL (V.rows a)), (tS b), (.clo 102 [])] [] [] [rg [0, 1, 2] [], rg [0, 1, 2, 8] [], rg [0, 1, 2, 8, 9, 10] [], .cut (.exit 0) ⟨49, [(0, (tL (V.rows a))), (1, (tS b)), (2, (.clo 102 [])), (8, (tI (((V.rows a).length : Nat) : Int))), (9, (tI q1.1))], []⟩, .reg [.bit false] [] [6, 7] []] = some ⟨.ret (.tup [(tI q1.1), (tB false)]), [], [], [_, _]⟩ by kernel_rfl) (pc hl1 (pc h2 pn)) cn
  ·rw [show m101_102 a b = (q1.1, ((m102 (a[(q1.1 : Int).toNat]?.getD default) b) == (0 : Int))) by simp only [m101_102, h1, h2, cond_true, cond_false]]
   rw [h1] at hl1
   exact co Tryz.func101 (by kernel_rfl) (show runF TP 99 Tryz.f101 [(tL (V.rows a)), (tS b), (.clo 102 [])] [] [] [rg [0, 1, 2] [], rg [0, 1, 2, 8] [], rg [0, 1, 2, 8, 9, 10] [], .cut (.exit 0) ⟨49, [(0, (tL (V.rows a))), (1, (tS b)), (2, (.clo 102 [])), (8, (tI (((V.rows a).length : Nat) : Int))), (9, (tI q1.1))], []⟩, .reg [.bit true, .cellsT (VC (a[(q1.1 : Int).toNat]?.getD default)), (rr (tI (m102 (a[(q1.1 : Int).toNat]?.getD default) b)))] [] [6, 7] []] = some ⟨.ret (.tup [(tI q1.1), (tB ((m102 (a[(q1.1 : Int).toNat]?.getD default) b) == (0 : Int)))]), [], _, [W TP (bodyAt Tryz.f101 [1, 1, 1, 0, 0]) ⟨49, [(0, (tL (V.rows a))), (1, (tS b)), (2, (.clo 102 [])), (8, (tI (((V.rows a).length : Nat) : Int))), (9, (tI 0)), (10, (tI (((V.rows a).length : Nat) : Int)))], []⟩ (One (.exit 0) ⟨49, [(0, (tL (V.rows a))), (1, (tS b)), (2, (.clo 102 [])), (8, (tI (((V.rows a).length : Nat) : Int))), (9, (tI q1.1))], []⟩), (decide (q1.1 < (((V.rows a).length : Nat) : Int))) = true, (0 : Int) ≤ q1.1, (V.rows a)[(q1.1 : Int).toNat]? = some (VC (a[(q1.1 : Int).toNat]?.getD default))]⟩ by kernel_rfl) (pc hl1 (pc h2 (pc (bs101_102_inv a b (V.len hsh.1) _ _ _ h1 (bs101_102_init a)).1 (pc (pickI V.rows_get (by have h3 := of_decide_eq_true h2; rw [V.rows_length] at h3; have := (bs101_102_inv a b (V.len hsh.1) _ _ _ h1 (bs101_102_init a)); omega)) pn)))) (cc (f102_ok (a[(q1.1 : Int).toNat]?.getD default) b (hp _ (getD_mem (by have h3 := of_decide_eq_true h2; rw [V.rows_length] at h3; have := (bs101_102_inv a b (V.len hsh.1) _ _ _ h1 (bs101_102_init a)); omega)))) cn)
theorem m101_bnd (a : List V) (b : ByteArray) (hl : a.length ≤ 274877906944) : 0 ≤ (m101_102 a b).1 ∧ (m101_102 a b).1 ≤ ((a.length : Nat) : Int) ∧ ((m101_102 a b).2 = true → (m101_102 a b).1 < ((a.length : Nat) : Int)) := by
 unfold m101_102
 cases h1 : (wh (m101_102_b0 a b) (a.length + 1) (0, (((V.rows a).length : Nat) : Int))) with
 | inl q1 => exact q1.elim
 | inr q1 =>
  have iq := bs101_102_inv a b hl _ _ _ h1 (bs101_102_init a)
  simp only
  cases h2 : (decide (q1.1 < (((V.rows a).length : Nat) : Int)))
  ·simp only [cond_false]; exact ⟨iq.1, by omega, fun h => by cases h⟩
  ·have h3 := of_decide_eq_true h2
   rw [V.rows_length] at h3
   simp only [cond_true]; exact ⟨iq.1, by omega, fun _ => h3⟩
def m86 (a : QLedgerBook) (b : V) : Int × Bool :=
 ((m101_102 a.l b.s).1, (m101_102 a.l b.s).2)
theorem f86_ok (a : QLedgerBook) (b : V) (hp : ∀ x ∈ a.l, 0 < x.l.length) : CallOk TP 86 [(.cp [(.sl (V.rows a.l))]), (VM b)] [] (.ret (.tup [(tI (m86 a b).1), (tB (m86 a b).2)])) [] := by
 rw [show m86 a b = ((m101_102 a.l b.s).1, (m101_102 a.l b.s).2) by simp only [m86]]
 exact co Tryz.func86 (by kernel_rfl) (show runF TP 99 Tryz.f86 [(.cp [(.sl (V.rows a.l))]), (VM b)] [] [] [rg [0, 3] [3], .drw [[], [], [], [], [], [], [(rr (.tup [(tI (m101_102 a.l b.s).1), (tB (m101_102 a.l b.s).2)]))], [], [], [], []] [] [4, 5] []] = some ⟨.ret (.tup [(tI (m101_102 a.l b.s).1), (tB (m101_102 a.l b.s).2)]), [], _, []⟩ by kernel_rfl) pn (cc (f101_102_ok a.l b.s (by assumption)) cn)
def m57 (a : Bool) (b : Int) : Ou (Unit) :=
 bif a then
  .ret ()
 else
  .pan (.iface 86 (.agg #[(.int .i64 b)]))
theorem f57_ok (a : Bool) (b : Int) : CallOk TP 57 [(tB a), (tI b)] [] (Ou.oc (fun r => (.tup [])) (m57 a b)) [] := by
 rcases (Bool.eq_false_or_eq_true a).symm with h1 | h1
 ·rw [show m57 a b = .pan (.iface 86 (.agg #[(.int .i64 b)])) by simp only [m57, h1, cond_true, cond_false]]
  exact co Tryz.func57 (by kernel_rfl) (show runF TP 99 Tryz.f57 [(tB a), (tI b)] [] [] [rg [1, 5] [], b1 [1] [], rg [] []] = some ⟨.pan (.iface 86 (.agg #[(.int .i64 b)])), [], [], [_]⟩ by kernel_rfl) (pc (not_tt h1) pn) cn
 ·rw [show m57 a b = .ret () by simp only [m57, h1, cond_true, cond_false]]
  exact co Tryz.func57 (by kernel_rfl) (show runF TP 99 Tryz.f57 [(tB a), (tI b)] [] [] [rg [1, 5] [], b0 [] []] = some ⟨.ret (.tup []), [], [], [_]⟩ by kernel_rfl) (pc (not_ff h1) pn) cn
def m56 (a : QLedgerBook) (b : V) : Ou (Int) :=
 match (m57 ((m86 a b).2) 30) with
 | .pan q1 =>
  .pan q1
 | .ret q1 => (
  .ret (m86 a b).1)
theorem f56_ok (a : QLedgerBook) (b : V) (hp : ∀ x ∈ a.l, 0 < x.l.length) : CallOk TP 56 [(.cp [(.sl (V.rows a.l))]), (VM b)] [] (Ou.oc (fun r => (tI r)) (m56 a b)) [] := by
 cases h1 : (m57 ((m86 a b).2) 30) with
 | pan q1 => 
  rw [show m56 a b = .pan q1 by simp only [m56, h1, cond_true, cond_false]]
  exact co Tryz.func56 (by kernel_rfl) (show runF TP 99 Tryz.f56 [(.cp [(.sl (V.rows a.l))]), (VM b)] [] [] [rg [0, 3] [3], .reg [(rr (.tup [(tI (m86 a b).1), (tB (m86 a b).2)]))] [] [5, 6] [], .reg [.ret (.pan q1) [] [] 0] [] [] []] = some ⟨.pan q1, [], [(86, [(.cp [(.sl (V.rows a.l))]), (VM b)], [], .ret (.tup [(tI (m86 a b).1), (tB (m86 a b).2)]), []), (57, [(tB (m86 a b).2), (tI 30)], [], .pan q1, [])], []⟩ by kernel_rfl) pn (cc (f86_ok a b (by first | assumption | exact lgh)) (cc (by have hc := (f57_ok ((m86 a b).2) 30); rw [h1] at hc; exact hc) cn))
 | ret q1 => 
  rw [show m56 a b = .ret (m86 a b).1 by simp only [m56, h1, cond_true, cond_false]]
  exact co Tryz.func56 (by kernel_rfl) (show runF TP 99 Tryz.f56 [(.cp [(.sl (V.rows a.l))]), (VM b)] [] [] [rg [0, 3] [3], .reg [(rr (.tup [(tI (m86 a b).1), (tB (m86 a b).2)]))] [] [5, 6] [], .reg [(rr (.tup []))] [] [5] [], rg [4] []] = some ⟨.ret (tI (m86 a b).1), [], [(86, [(.cp [(.sl (V.rows a.l))]), (VM b)], [], .ret (.tup [(tI (m86 a b).1), (tB (m86 a b).2)]), []), (57, [(tB (m86 a b).2), (tI 30)], [], .ret (.tup []), [])], []⟩ by kernel_rfl) pn (cc (f86_ok a b (by first | assumption | exact lgh)) (cc (by have hc := (f57_ok ((m86 a b).2) 30); rw [h1] at hc; exact hc) cn))
theorem m56_bnd (a : QLedgerBook) (b : V) (hl : a.l.length ≤ 274877906944) {i : Int} (h : m56 a b = .ret i) : 0 ≤ i ∧ i.toNat < a.l.length := by
 have hb := m101_bnd a.l b.s hl
 unfold m56 at h
 cases h2 : (m101_102 a.l b.s).2
 ·simp only [m86, m57, h2, cond_false] at h; cases h
 ·simp only [m86, m57, h2, cond_true, Ou.ret.injEq] at h
  have := hb.2.2 h2
  subst h
  exact ⟨hb.1, by have := hb.1; omega⟩
def m60 (a : QLedgerBook) (b : Int) (c : V) : Ou (V) :=
 match (m57 (m75 ((m89 (((a.l[(b : Int).toNat]?.getD default).l)[1]?.getD default) c).1)) 35) with
 | .pan q1 =>
  .pan q1
 | .ret q1 => (
  .ret ((m89 (((a.l[(b : Int).toNat]?.getD default).l)[1]?.getD default) c).1))
theorem f60_ok (a : QLedgerBook) (b : Int) (c : V) (hb : 0 ≤ b ∧ b.toNat < a.l.length) (hb2 : 1 < (a.l[(b : Int).toNat]?.getD default).l.length) : CallOk TP 60 [(.cp [(.sl (V.rows a.l))]), (tI b), (VM c)] [] (Ou.oc (fun r => (VM r)) (m60 a b c)) [] := by
 cases h1 : (m57 (m75 ((m89 (((a.l[(b : Int).toNat]?.getD default).l)[1]?.getD default) c).1)) 35) with
 | pan q1 => 
  rw [show m60 a b c = .pan q1 by simp only [m60, h1, cond_true, cond_false]]
  exact co Tryz.func60 (by kernel_rfl) (show runF TP 99 Tryz.f60 [(.cp [(.sl (V.rows a.l))]), (tI b), (VM c)] [] [] [rg [0, 1, 5, 6] [5, 6], .drw [[], [], [], [], [], [.cellsT (VC (a.l[(b : Int).toNat]?.getD default))], [], [], [.cellsT (VC (((a.l[(b : Int).toNat]?.getD default).l)[1]?.getD default))], [], [], [(rr (.tup [(VM ((m89 (((a.l[(b : Int).toNat]?.getD default).l)[1]?.getD default) c).1)), (tI (m89 (((a.l[(b : Int).toNat]?.getD default).l)[1]?.getD default) c).2)]))], [], [], [], [], [], []] [] [6, 7] [6, 7], .reg [(rr (tB (m75 ((m89 (((a.l[(b : Int).toNat]?.getD default).l)[1]?.getD default) c).1)))), .ret (.pan q1) [] [] 0] [] [] []] = some ⟨.pan q1, [], [(89, [(VM (((a.l[(b : Int).toNat]?.getD default).l)[1]?.getD default)), (VM c)], [], .ret (.tup [(VM ((m89 (((a.l[(b : Int).toNat]?.getD default).l)[1]?.getD default) c).1)), (tI (m89 (((a.l[(b : Int).toNat]?.getD default).l)[1]?.getD default) c).2)]), []), (75, [(VM ((m89 (((a.l[(b : Int).toNat]?.getD default).l)[1]?.getD default) c).1))], [], .ret (tB (m75 ((m89 (((a.l[(b : Int).toNat]?.getD default).l)[1]?.getD default) c).1))), []), (57, [(tB (m75 ((m89 (((a.l[(b : Int).toNat]?.getD default).l)[1]?.getD default) c).1))), (tI 35)], [], .pan q1, [])], [(0 : Int) ≤ b, (V.rows a.l)[(b : Int).toNat]? = some (VC (a.l[(b : Int).toNat]?.getD default)), (0 : Int) ≤ 1, (V.rows ((a.l[(b : Int).toNat]?.getD default).l))[(1 : Int).toNat]? = some (VC (((a.l[(b : Int).toNat]?.getD default).l)[1]?.getD default))]⟩ by kernel_rfl) (pc hb.1 (pc (pickI V.rows_get hb.2) (pc (by decide) (pc (V.rows_pick  (i := 1) hb2) pn)))) (cc (f89_ok (((a.l[(b : Int).toNat]?.getD default).l)[1]?.getD default) c) (cc (f75_ok ((m89 (((a.l[(b : Int).toNat]?.getD default).l)[1]?.getD default) c).1)) (cc (by have hc := (f57_ok (m75 ((m89 (((a.l[(b : Int).toNat]?.getD default).l)[1]?.getD default) c).1)) 35); rw [h1] at hc; exact hc) cn)))
 | ret q1 => 
  rw [show m60 a b c = .ret ((m89 (((a.l[(b : Int).toNat]?.getD default).l)[1]?.getD default) c).1) by simp only [m60, h1, cond_true, cond_false]]
  exact co Tryz.func60 (by kernel_rfl) (show runF TP 99 Tryz.f60 [(.cp [(.sl (V.rows a.l))]), (tI b), (VM c)] [] [] [rg [0, 1, 5, 6] [5, 6], .drw [[], [], [], [], [], [.cellsT (VC (a.l[(b : Int).toNat]?.getD default))], [], [], [.cellsT (VC (((a.l[(b : Int).toNat]?.getD default).l)[1]?.getD default))], [], [], [(rr (.tup [(VM ((m89 (((a.l[(b : Int).toNat]?.getD default).l)[1]?.getD default) c).1)), (tI (m89 (((a.l[(b : Int).toNat]?.getD default).l)[1]?.getD default) c).2)]))], [], [], [], [], [], []] [] [6, 7] [6, 7], .reg [(rr (tB (m75 ((m89 (((a.l[(b : Int).toNat]?.getD default).l)[1]?.getD default) c).1)))), (rr (.tup []))] [] [6, 7] [6, 7], rg [6] [6]] = some ⟨.ret (VM ((m89 (((a.l[(b : Int).toNat]?.getD default).l)[1]?.getD default) c).1)), [], [(89, [(VM (((a.l[(b : Int).toNat]?.getD default).l)[1]?.getD default)), (VM c)], [], .ret (.tup [(VM ((m89 (((a.l[(b : Int).toNat]?.getD default).l)[1]?.getD default) c).1)), (tI (m89 (((a.l[(b : Int).toNat]?.getD default).l)[1]?.getD default) c).2)]), []), (75, [(VM ((m89 (((a.l[(b : Int).toNat]?.getD default).l)[1]?.getD default) c).1))], [], .ret (tB (m75 ((m89 (((a.l[(b : Int).toNat]?.getD default).l)[1]?.getD default) c).1))), []), (57, [(tB (m75 ((m89 (((a.l[(b : Int).toNat]?.getD default).l)[1]?.getD default) c).1))), (tI 35)], [], .ret (.tup []), [])], [(0 : Int) ≤ b, (V.rows a.l)[(b : Int).toNat]? = some (VC (a.l[(b : Int).toNat]?.getD default)), (0 : Int) ≤ 1, (V.rows ((a.l[(b : Int).toNat]?.getD default).l))[(1 : Int).toNat]? = some (VC (((a.l[(b : Int).toNat]?.getD default).l)[1]?.getD default))]⟩ by kernel_rfl) (pc hb.1 (pc (pickI V.rows_get hb.2) (pc (by decide) (pc (V.rows_pick  (i := 1) hb2) pn)))) (cc (f89_ok (((a.l[(b : Int).toNat]?.getD default).l)[1]?.getD default) c) (cc (f75_ok ((m89 (((a.l[(b : Int).toNat]?.getD default).l)[1]?.getD default) c).1)) (cc (by have hc := (f57_ok (m75 ((m89 (((a.l[(b : Int).toNat]?.getD default).l)[1]?.getD default) c).1)) 35); rw [h1] at hc; exact hc) cn)))
def m59 (a : V) : Ou (V) :=
 bif (m75 a) then
  match (m57 (decide ((m88 a) > (0 : Int))) 35) with
  | .pan q2 =>
   .pan q2
  | .ret q2 => (
   .ret ((m89 (V.mk 2 0 (some 0) bE []) a).1))
 else
  match (m57 false 35) with
  | .pan q2 =>
   .pan q2
  | .ret q2 => (
   .ret ((m89 (V.mk 2 0 (some 0) bE []) a).1))
theorem f59_ok (a : V) : CallOk TP 59 [(VM a)] [] (Ou.oc (fun r => (VM r)) (m59 a)) [] := by
 cases h1 : (m75 a)
 ·cases h2 : (m57 false 35) with
  | pan q2 => 
   rw [show m59 a = .pan q2 by simp only [m59, h1, h2, cond_true, cond_false]]
   exact co Tryz.func59 (by kernel_rfl) (show runF TP 99 Tryz.f59 [(VM a)] [] [] [rg [1, 2] [1, 2], .reg [(rr (tB (m75 a))), .bit false, .ret (.pan q2) [] [] 0] [] [] []] = some ⟨.pan q2, [], [(75, [(VM a)], [], .ret (tB (m75 a)), []), (57, [(tB false), (tI 35)], [], .pan q2, [])], [_]⟩ by kernel_rfl) (pc h1 pn) (cc (f75_ok a) (cc (by have hc := (f57_ok false 35); rw [h2] at hc; exact hc) cn))
  | ret q2 => 
   rw [show m59 a = .ret ((m89 (V.mk 2 0 (some 0) bE []) a).1) by simp only [m59, h1, h2, cond_true, cond_false]]
   exact co Tryz.func59 (by kernel_rfl) (show runF TP 99 Tryz.f59 [(VM a)] [] [] [rg [1, 2] [1, 2], .reg [(rr (tB (m75 a))), .bit false, (rr (.tup []))] [] [1, 2] [1, 2], .reg [(rr (.tup [(VM ((m89 (V.mk 2 0 (some 0) bE []) a).1)), (tI (m89 (V.mk 2 0 (some 0) bE []) a).2)]))] [] [2, 3] [2, 3], rg [2] [2]] = some ⟨.ret (VM ((m89 (V.mk 2 0 (some 0) bE []) a).1)), [], [(75, [(VM a)], [], .ret (tB (m75 a)), []), (57, [(tB false), (tI 35)], [], .ret (.tup []), []), (89, [(.agg [(tI 2), (tI 0), (tF (some 0)), (tS bE), (tL [])]), (VM a)], [], .ret (.tup [(VM ((m89 (V.mk 2 0 (some 0) bE []) a).1)), (tI (m89 (V.mk 2 0 (some 0) bE []) a).2)]), [])], [_]⟩ by kernel_rfl) (pc h1 pn) (cc (f75_ok a) (cc (by have hc := (f57_ok false 35); rw [h2] at hc; exact hc) (cc (f89_ok (V.mk 2 0 (some 0) bE []) a) cn)))
 ·cases h2 : (m57 (decide ((m88 a) > (0 : Int))) 35) with
  | pan q2 => 
   rw [show m59 a = .pan q2 by simp only [m59, h1, h2, cond_true, cond_false]]
   exact co Tryz.func59 (by kernel_rfl) (show runF TP 99 Tryz.f59 [(VM a)] [] [] [rg [1, 2] [1, 2], .reg [(rr (tB (m75 a))), .bit true, (rr (tI (m88 a))), .ret (.pan q2) [] [] 0] [] [] []] = some ⟨.pan q2, [], [(75, [(VM a)], [], .ret (tB (m75 a)), []), (88, [(VM a)], [], .ret (tI (m88 a)), []), (57, [(tB (decide ((m88 a) > (0 : Int)))), (tI 35)], [], .pan q2, [])], [_]⟩ by kernel_rfl) (pc h1 pn) (cc (f75_ok a) (cc (f88_ok a) (cc (by have hc := (f57_ok (decide ((m88 a) > (0 : Int))) 35); rw [h2] at hc; exact hc) cn)))
  | ret q2 => 
   rw [show m59 a = .ret ((m89 (V.mk 2 0 (some 0) bE []) a).1) by simp only [m59, h1, h2, cond_true, cond_false]]
   exact co Tryz.func59 (by kernel_rfl) (show runF TP 99 Tryz.f59 [(VM a)] [] [] [rg [1, 2] [1, 2], .reg [(rr (tB (m75 a))), .bit true, (rr (tI (m88 a))), (rr (.tup []))] [] [1, 2] [1, 2], .reg [(rr (.tup [(VM ((m89 (V.mk 2 0 (some 0) bE []) a).1)), (tI (m89 (V.mk 2 0 (some 0) bE []) a).2)]))] [] [2, 3] [2, 3], rg [2] [2]] = some ⟨.ret (VM ((m89 (V.mk 2 0 (some 0) bE []) a).1)), [], [(75, [(VM a)], [], .ret (tB (m75 a)), []), (88, [(VM a)], [], .ret (tI (m88 a)), []), (57, [(tB (decide ((m88 a) > (0 : Int)))), (tI 35)], [], .ret (.tup []), []), (89, [(.agg [(tI 2), (tI 0), (tF (some 0)), (tS bE), (tL [])]), (VM a)], [], .ret (.tup [(VM ((m89 (V.mk 2 0 (some 0) bE []) a).1)), (tI (m89 (V.mk 2 0 (some 0) bE []) a).2)]), [])], [_]⟩ by kernel_rfl) (pc h1 pn) (cc (f75_ok a) (cc (f88_ok a) (cc (by have hc := (f57_ok (decide ((m88 a) > (0 : Int))) 35); rw [h2] at hc; exact hc) (cc (f89_ok (V.mk 2 0 (some 0) bE []) a) cn))))
def m29_b0 (a : QLedgerBook) (b : ByteArray) (c : (List V)) (x : V) (i : Nat) (s : (List V)) : (List V) :=
 (s ++ [(x.l[0]?.getD default)])
def m29_b1 (a : QLedgerBook) (b : ByteArray) (c : (List V)) (x : V) (i : Nat) (s : (List V)) : (List V) :=
 (s ++ [(x.l[1]?.getD default)])
def m29 (a : QLedgerBook) (b : ByteArray) (c : (List V)) : Ou (V) :=
 bif (b.toList == (ByteArray.mk #[98, 97, 108, 97, 110, 99, 101]).toList) then
  match (m56 a (c[0]?.getD default)) with
  | .pan q6 =>
   .pan q6
  | .ret q6 => (
   .ret (((a.l[(q6 : Int).toNat]?.getD default).l)[1]?.getD default))
 else
  bif (b.toList == (ByteArray.mk #[110, 97, 109, 101, 115]).toList) then
   .ret (V.mk 4 0 (some 0) bE (lp2 (m29_b0 a b c) a.l 0 ([])))
  else
   bif (b.toList == (ByteArray.mk #[116, 111, 116, 97, 108]).toList) then
    .ret ((m62 (lp2 (m29_b1 a b c) a.l 0 ([(V.mk 2 0 (some 0) bE [])]))).1)
   else
    .ret (V.mk 0 0 (some 0) bE [])
theorem f29_ok (a : QLedgerBook) (b : ByteArray) (c : (List V)) (hp : ∀ x ∈ a.l, 1 < x.l.length) (ho : (b.toList == (ByteArray.mk #[111, 112, 101, 110]).toList) = false) (hc : (b.toList == (ByteArray.mk #[99, 108, 111, 115, 101]).toList) = false) (hd : (b.toList == (ByteArray.mk #[100, 101, 112, 111, 115, 105, 116]).toList) = false) (ht : (b.toList == (ByteArray.mk #[116, 114, 97, 110, 115, 102, 101, 114]).toList) = false) (hl : a.l.length ≤ 1000000) (h0 : (b.toList == (ByteArray.mk #[98, 97, 108, 97, 110, 99, 101]).toList) = true → 0 < c.length) : CallOk TP 29 [(.ptr 1000000 0), (tS b), (tL (V.rows c))] [.os [(tL (V.rows a.l))]] (Ou.oc (fun r => (VM r)) (m29 a b c)) (Ou.bk [.is (.os [(tL (V.rows a.l))])] (m29 a b c)) := by
 refine CallOk.short fun hsh => ?_
 cases h5 : (b.toList == (ByteArray.mk #[98, 97, 108, 97, 110, 99, 101]).toList)
 ·cases h6 : (b.toList == (ByteArray.mk #[110, 97, 109, 101, 115]).toList)
  ·cases h7 : (b.toList == (ByteArray.mk #[116, 111, 116, 97, 108]).toList)
   ·rw [show m29 a b c = .ret (V.mk 0 0 (some 0) bE []) by simp only [m29, h5, h6, h7, cond_true, cond_false]]
    exact co Tryz.func29 (by kernel_rfl) (show runF TP 99 Tryz.f29 [(.ptr 1000000 0), (tS b), (tL (V.rows c))] [.os [(tL (V.rows a.l))]] [.is .any] [rg [0, 1, 2, 6] [6, 1000000], rg [0, 2, 6, 18] [6, 1000000], rg [0, 2, 6, 18, 19] [6, 1000000], b0 [0, 2, 6, 18] [6, 1000000], rg [0, 2, 6, 18, 26] [6, 1000000], b0 [0, 2, 6, 18] [6, 1000000], rg [0, 2, 6, 18, 57] [6, 1000000], b0 [0, 2, 6, 18] [6, 1000000], rg [0, 2, 6, 18, 91] [6, 1000000], b0 [0, 2, 6, 18] [6, 1000000], rg [0, 2, 6, 18, 96] [6, 1000000], b0 [0, 6, 18] [6, 1000000], rg [0, 6, 18, 112] [6, 1000000], b0 [0, 6, 18] [6, 1000000], rg [0, 6, 135] [6, 1000000], b0 [6] [6, 1000000], rg [6] [6, 1000000]] = some ⟨.ret (.agg [(tI 0), (tI 0), (tF (some 0)), (tS bE), (tL [])]), [.is (.os [(tL (V.rows a.l))])], [], [(b.toList == (ByteArray.mk #[111, 112, 101, 110]).toList) = false, (b.toList == (ByteArray.mk #[99, 108, 111, 115, 101]).toList) = false, (b.toList == (ByteArray.mk #[100, 101, 112, 111, 115, 105, 116]).toList) = false, (b.toList == (ByteArray.mk #[116, 114, 97, 110, 115, 102, 101, 114]).toList) = false, _, _, _]⟩ by kernel_rfl) (pc ho (pc hc (pc hd (pc ht (pc h5 (pc h6 (pc h7 pn))))))) cn
   ·rw [show m29 a b c = .ret ((m62 (lp2 (m29_b1 a b c) a.l 0 ([(V.mk 2 0 (some 0) bE [])]))).1) by simp only [m29, h5, h6, h7, cond_true, cond_false]]
    have hlen : a.l.length ≤ 274877906944 := (Nat.le_trans hl (by decide))
    have hl1 : W TP (bodyAt Tryz.f29 [1, 0, 1, 0, 1, 1, 1, 1, 1, 1, 1, 1, 1, 1, 1, 1, 1, 0, 1, 0, 1, 0]) ⟨163, [(6, (.ptr 6 0)), (13, (.own 5154 5 [[(sI 2), (sI 0), (.f (some 0)), (sS bE), (.sl [])]])), (142, (tL (V.rows a.l))), (143, (tI (((V.rows a.l).length : Nat) : Int))), (144, (tI 0))], [(6, .os [(tI 0), (tI 0), (tF (some 0)), (tS bE), (.tight [])]), (5154, .op 5 [[(sI 2), (sI 0), (.f (some 0)), (sS bE), (.sl [])]]), (1000000, .os [(tL (V.rows a.l))])]⟩ (One (.exit 3) ((fun (i : Nat) (s : (List V)) => (⟨163, [(6, (.ptr 6 0)), (13, (.own 5154 5 (V.rows s)))], [(6, .os [(tI 0), (tI 0), (tF (some 0)), (tS bE), (.tight [])]), (5154, .op 5 (V.rows s)), (1000000, .os [(tL (V.rows a.l))])]⟩ : St)) a.l.length (lp2 (m29_b1 a b c) a.l 0 ([(V.mk 2 0 (some 0) bE [])])))) := by
     refine lp2_W (e := (.exit 3)) (c := bodyAt Tryz.f29 [1, 0, 1, 0, 1, 1, 1, 1, 1, 1, 1, 1, 1, 1, 1, 1, 1, 0, 1, 0, 1, 0, 0]) a.l (fun (i : Nat) (s : (List V)) => (⟨163, [(6, (.ptr 6 0)), (13, (.own 5154 5 (V.rows s))), (142, (tL (V.rows a.l))), (143, (tI (((V.rows a.l).length : Nat) : Int))), (144, (tI ((i : Nat) : Int)))], [(6, .os [(tI 0), (tI 0), (tF (some 0)), (tS bE), (.tight [])]), (5154, .op 5 (V.rows s)), (1000000, .os [(tL (V.rows a.l))])]⟩ : St)) (fun (i : Nat) (s : (List V)) => (⟨163, [(6, (.ptr 6 0)), (13, (.own 5154 5 (V.rows s)))], [(6, .os [(tI 0), (tI 0), (tF (some 0)), (tS bE), (.tight [])]), (5154, .op 5 (V.rows s)), (1000000, .os [(tL (V.rows a.l))])]⟩ : St)) (m29_b1 a b c) (fun (i : Nat) (s : (List V)) => (s.length ≤ i + 1 : Prop)) ([(V.mk 2 0 (some 0) bE [])]) (by simp) (by kernel_rfl) (by simp) ?_ ?_
     ·intro s hI
      exact wo (show run TP 99 (bodyAt Tryz.f29 [1, 0, 1, 0, 1, 1, 1, 1, 1, 1, 1, 1, 1, 1, 1, 1, 1, 0, 1, 0, 1, 0, 0]) ⟨163, [(6, (.ptr 6 0)), (13, (.own 5154 5 (V.rows s))), (142, (tL (V.rows a.l))), (143, (tI (((V.rows a.l).length : Nat) : Int))), (144, (tI ((a.l.length : Nat) : Int)))], [(6, .os [(tI 0), (tI 0), (tF (some 0)), (tS bE), (.tight [])]), (5154, .op 5 (V.rows s)), (1000000, .os [(tL (V.rows a.l))])]⟩ [rg [6, 13, 142, 143, 144, 145] [6, 5154, 1000000], b0 [6, 13] [6, 5154, 1000000]] = some ⟨(.exit 3), ⟨163, [(6, (.ptr 6 0)), (13, (.own 5154 5 (V.rows s)))], [(6, .os [(tI 0), (tI 0), (tF (some 0)), (tS bE), (.tight [])]), (5154, .op 5 (V.rows s)), (1000000, .os [(tL (V.rows a.l))])]⟩, [], [], [(decide (((a.l.length : Nat) : Int) < (((V.rows a.l).length : Nat) : Int))) = false]⟩ by kernel_rfl) (pc (lt_ff (V.rows_length _)) pn) cn
     ·intro i x s hx hi hI
      have hb : (m29_b1 a b c) x i s = (s ++ [(x.l[1]?.getD default)]) := by simp only [m29_b1]
      rw [hb]
      have hr := wo (show run TP 99 (bodyAt Tryz.f29 [1, 0, 1, 0, 1, 1, 1, 1, 1, 1, 1, 1, 1, 1, 1, 1, 1, 0, 1, 0, 1, 0, 0]) ⟨163, [(6, (.ptr 6 0)), (13, (.own 5154 5 (V.rows s))), (142, (tL (V.rows a.l))), (143, (tI (((V.rows a.l).length : Nat) : Int))), (144, (tI ((i : Nat) : Int)))], [(6, .os [(tI 0), (tI 0), (tF (some 0)), (tS bE), (.tight [])]), (5154, .op 5 (V.rows s)), (1000000, .os [(tL (V.rows a.l))])]⟩ [rg [6, 13, 142, 143, 144, 145] [6, 5154, 1000000], b1 [6, 13, 142, 143, 144] [6, 5154, 1000000], .reg [.cellsT (VC x)] [] [6, 13, 15, 142, 143, 144] [6, 15, 5154, 1000000], .reg [.cellsT (VC (x.l[1]?.getD default))] [.keep [6, 13, 142, 143, 144] [6, 154, 1000000], .mv 154 5154] [6, 13, 142, 143, 144] [6, 5154, 1000000], rg [6, 13, 142, 143, 144] [6, 5154, 1000000]] = some ⟨.normal, ⟨163, [(6, (.ptr 6 0)), (13, (.own 5154 5 ((V.rows s) ++ [(VC (x.l[1]?.getD default))]))), (142, (tL (V.rows a.l))), (143, (tI (((V.rows a.l).length : Nat) : Int))), (144, (tI (IntKind.i64.wrap (((i : Nat) : Int) + 1))))], [(6, .os [(tI 0), (tI 0), (tF (some 0)), (tS bE), (.tight [])]), (5154, .op 5 ((V.rows s) ++ [(VC (x.l[1]?.getD default))])), (1000000, .os [(tL (V.rows a.l))])]⟩, [], [], [(decide (((i : Nat) : Int) < (((V.rows a.l).length : Nat) : Int))) = true, (0 : Int) ≤ ((i : Nat) : Int), (V.rows a.l)[(((i : Nat) : Int) : Int).toNat]? = some (VC x), (0 : Int) ≤ 1, (V.rows x.l)[(1 : Int).toNat]? = some (VC (x.l[1]?.getD default)), (((V.rows s) : List (List T)).length + ([(VC (x.l[1]?.getD default))] : List (List T)).length) * 64 ≤ 140737488355328, ((V.rows s) : List (List T)).length + ([(VC (x.l[1]?.getD default))] : List (List T)).length ≤ 274877906944, ∀ z, z ∈ ((V.rows s) : List (List T)) → z.length = 5, ∀ z, z ∈ ([(VC (x.l[1]?.getD default))] : List (List T)) → z.length = 5]⟩ by kernel_rfl) (pc (lt_tt hi (V.rows_length _)) (pc (Int.natCast_nonneg _) (pc (V.rows_at hx) (pc (by decide) (pc (V.rows_pick  (i := 1) (by first | exact hp _ (getD_mem (m56_bnd _ _ (Nat.le_trans hl (by decide)) h6).2) | (have := hp x (List.mem_of_getElem? hx); omega))) (pc (by simp only [V.rows_length, List.length_cons, List.length_nil, Nat.zero_add] at *; omega) (pc (by simp only [V.rows_length, List.length_cons, List.length_nil, Nat.zero_add] at *; omega) (pc (V.rows_z _) (pc (by simp) pn))))))))) cn
      rw [wrap_succ hi hlen] at hr
      have e0_0 : V.rows (s ++ [(x.l[1]?.getD default)]) = ((V.rows s) ++ [(VC (x.l[1]?.getD default))]) := V.rows_snoc _ _
      rw [← e0_0] at hr
      exact ⟨hr, (by simp only [List.length_append, List.length_cons, List.length_nil] at *; omega)⟩
    exact co Tryz.func29 (by kernel_rfl) (show runF TP 99 Tryz.f29 [(.ptr 1000000 0), (tS b), (tL (V.rows c))] [.os [(tL (V.rows a.l))]] [.is .any] [rg [0, 1, 2, 6] [6, 1000000], rg [0, 2, 6, 18] [6, 1000000], rg [0, 2, 6, 18, 19] [6, 1000000], b0 [0, 2, 6, 18] [6, 1000000], rg [0, 2, 6, 18, 26] [6, 1000000], b0 [0, 2, 6, 18] [6, 1000000], rg [0, 2, 6, 18, 57] [6, 1000000], b0 [0, 2, 6, 18] [6, 1000000], rg [0, 2, 6, 18, 91] [6, 1000000], b0 [0, 2, 6, 18] [6, 1000000], rg [0, 2, 6, 18, 96] [6, 1000000], b0 [0, 6, 18] [6, 1000000], rg [0, 6, 18, 112] [6, 1000000], b0 [0, 6, 18] [6, 1000000], rg [0, 6, 135] [6, 1000000], b1 [0, 6] [6, 1000000], rg [0, 6, 13] [6, 1000000], .reg [] [.armT 13 5154 5] [6, 13, 142, 143, 144] [6, 5154, 1000000], .cut (.exit 3) ⟨163, [(6, (.ptr 6 0)), (13, (.own 5154 5 (V.rows (lp2 (m29_b1 a b c) a.l 0 ([(V.mk 2 0 (some 0) bE [])])))))], [(6, .os [(tI 0), (tI 0), (tF (some 0)), (tS bE), (.tight [])]), (5154, .op 5 (V.rows (lp2 (m29_b1 a b c) a.l 0 ([(V.mk 2 0 (some 0) bE [])])))), (1000000, .os [(tL (V.rows a.l))])]⟩, .reg [(rr (.tup [(VM ((m62 (lp2 (m29_b1 a b c) a.l 0 ([(V.mk 2 0 (some 0) bE [])]))).1)), (tI (m62 (lp2 (m29_b1 a b c) a.l 0 ([(V.mk 2 0 (some 0) bE [])]))).2)]))] [] [6, 16] [6, 16, 1000000], rg [6] [6, 1000000]] = some ⟨.ret (VM ((m62 (lp2 (m29_b1 a b c) a.l 0 ([(V.mk 2 0 (some 0) bE [])]))).1)), [.is (.os [(tL (V.rows a.l))])], _, [(b.toList == (ByteArray.mk #[111, 112, 101, 110]).toList) = false, (b.toList == (ByteArray.mk #[99, 108, 111, 115, 101]).toList) = false, (b.toList == (ByteArray.mk #[100, 101, 112, 111, 115, 105, 116]).toList) = false, (b.toList == (ByteArray.mk #[116, 114, 97, 110, 115, 102, 101, 114]).toList) = false, _, _, _, _]⟩ by kernel_rfl) (pc ho (pc hc (pc hd (pc ht (pc h5 (pc h6 (pc h7 (pc hl1 pn)))))))) (cc (f62_ok (lp2 (m29_b1 a b c) a.l 0 ([(V.mk 2 0 (some 0) bE [])]))) cn)
  ·rw [show m29 a b c = .ret (V.mk 4 0 (some 0) bE (lp2 (m29_b0 a b c) a.l 0 ([]))) by simp only [m29, h5, h6, cond_true, cond_false]]
   have hlen : a.l.length ≤ 274877906944 := (Nat.le_trans hl (by decide))
   have hl1 : W TP (bodyAt Tryz.f29 [1, 0, 1, 0, 1, 1, 1, 1, 1, 1, 1, 1, 1, 1, 1, 0, 1, 0, 1, 0]) ⟨163, [(6, (.ptr 6 0)), (10, (.ptr 10 0)), (118, (tL (V.rows a.l))), (119, (tI (((V.rows a.l).length : Nat) : Int))), (120, (tI 0))], [(6, .os [(tI 0), (tI 0), (tF (some 0)), (tS bE), (.tight [])]), (10, .os [(tI 4), (tI 0), (tF (some 0)), (tS bE), (.own 5131 5 [])]), (5131, .op 5 []), (1000000, .os [(tL (V.rows a.l))])]⟩ (One (.exit 1) ((fun (i : Nat) (s : (List V)) => (⟨163, [(6, (.ptr 6 0)), (10, (.ptr 10 0))], [(6, .os [(tI 0), (tI 0), (tF (some 0)), (tS bE), (.tight [])]), (10, .os [(tI 4), (tI 0), (tF (some 0)), (tS bE), (.own 5131 5 (V.rows s))]), (5131, .op 5 (V.rows s)), (1000000, .os [(tL (V.rows a.l))])]⟩ : St)) a.l.length (lp2 (m29_b0 a b c) a.l 0 ([])))) := by
    refine lp2_W (e := (.exit 1)) (c := bodyAt Tryz.f29 [1, 0, 1, 0, 1, 1, 1, 1, 1, 1, 1, 1, 1, 1, 1, 0, 1, 0, 1, 0, 0]) a.l (fun (i : Nat) (s : (List V)) => (⟨163, [(6, (.ptr 6 0)), (10, (.ptr 10 0)), (118, (tL (V.rows a.l))), (119, (tI (((V.rows a.l).length : Nat) : Int))), (120, (tI ((i : Nat) : Int)))], [(6, .os [(tI 0), (tI 0), (tF (some 0)), (tS bE), (.tight [])]), (10, .os [(tI 4), (tI 0), (tF (some 0)), (tS bE), (.own 5131 5 (V.rows s))]), (5131, .op 5 (V.rows s)), (1000000, .os [(tL (V.rows a.l))])]⟩ : St)) (fun (i : Nat) (s : (List V)) => (⟨163, [(6, (.ptr 6 0)), (10, (.ptr 10 0))], [(6, .os [(tI 0), (tI 0), (tF (some 0)), (tS bE), (.tight [])]), (10, .os [(tI 4), (tI 0), (tF (some 0)), (tS bE), (.own 5131 5 (V.rows s))]), (5131, .op 5 (V.rows s)), (1000000, .os [(tL (V.rows a.l))])]⟩ : St)) (m29_b0 a b c) (fun (i : Nat) (s : (List V)) => (s.length ≤ i : Prop)) ([]) (by simp) (by kernel_rfl) (by simp) ?_ ?_
    ·intro s hI
     exact wo (show run TP 99 (bodyAt Tryz.f29 [1, 0, 1, 0, 1, 1, 1, 1, 1, 1, 1, 1, 1, 1, 1, 0, 1, 0, 1, 0, 0]) ⟨163, [(6, (.ptr 6 0)), (10, (.ptr 10 0)), (118, (tL (V.rows a.l))), (119, (tI (((V.rows a.l).length : Nat) : Int))), (120, (tI ((a.l.length : Nat) : Int)))], [(6, .os [(tI 0), (tI 0), (tF (some 0)), (tS bE), (.tight [])]), (10, .os [(tI 4), (tI 0), (tF (some 0)), (tS bE), (.own 5131 5 (V.rows s))]), (5131, .op 5 (V.rows s)), (1000000, .os [(tL (V.rows a.l))])]⟩ [rg [6, 10, 118, 119, 120, 121] [6, 10, 5131, 1000000], b0 [6, 10] [6, 10, 5131, 1000000]] = some ⟨(.exit 1), ⟨163, [(6, (.ptr 6 0)), (10, (.ptr 10 0))], [(6, .os [(tI 0), (tI 0), (tF (some 0)), (tS bE), (.tight [])]), (10, .os [(tI 4), (tI 0), (tF (some 0)), (tS bE), (.own 5131 5 (V.rows s))]), (5131, .op 5 (V.rows s)), (1000000, .os [(tL (V.rows a.l))])]⟩, [], [], [(decide (((a.l.length : Nat) : Int) < (((V.rows a.l).length : Nat) : Int))) = false]⟩ by kernel_rfl) (pc (lt_ff (V.rows_length _)) pn) cn
    ·intro i x s hx hi hI
     have hb : (m29_b0 a b c) x i s = (s ++ [(x.l[0]?.getD default)]) := by simp only [m29_b0]
     rw [hb]
     have hr := wo (show run TP 99 (bodyAt Tryz.f29 [1, 0, 1, 0, 1, 1, 1, 1, 1, 1, 1, 1, 1, 1, 1, 0, 1, 0, 1, 0, 0]) ⟨163, [(6, (.ptr 6 0)), (10, (.ptr 10 0)), (118, (tL (V.rows a.l))), (119, (tI (((V.rows a.l).length : Nat) : Int))), (120, (tI ((i : Nat) : Int)))], [(6, .os [(tI 0), (tI 0), (tF (some 0)), (tS bE), (.tight [])]), (10, .os [(tI 4), (tI 0), (tF (some 0)), (tS bE), (.own 5131 5 (V.rows s))]), (5131, .op 5 (V.rows s)), (1000000, .os [(tL (V.rows a.l))])]⟩ [rg [6, 10, 118, 119, 120, 121] [6, 10, 5131, 1000000], b1 [6, 10, 118, 119, 120] [6, 10, 5131, 1000000], .reg [.cellsT (VC x)] [] [6, 10, 12, 118, 119, 120] [6, 10, 12, 5131, 1000000], .drw [[], [], [], [], [.cellsT (VC (x.l[0]?.getD default))], [], [], [], [], []] [.keep [6, 10, 118, 119, 120] [6, 10, 131, 1000000], .mv 131 5131] [6, 10, 118, 119, 120] [6, 10, 5131, 1000000], rg [6, 10, 118, 119, 120] [6, 10, 5131, 1000000]] = some ⟨.normal, ⟨163, [(6, (.ptr 6 0)), (10, (.ptr 10 0)), (118, (tL (V.rows a.l))), (119, (tI (((V.rows a.l).length : Nat) : Int))), (120, (tI (IntKind.i64.wrap (((i : Nat) : Int) + 1))))], [(6, .os [(tI 0), (tI 0), (tF (some 0)), (tS bE), (.tight [])]), (10, .os [(tI 4), (tI 0), (tF (some 0)), (tS bE), (.own 5131 5 ((V.rows s) ++ [(VC (x.l[0]?.getD default))]))]), (5131, .op 5 ((V.rows s) ++ [(VC (x.l[0]?.getD default))])), (1000000, .os [(tL (V.rows a.l))])]⟩, [], [], [(decide (((i : Nat) : Int) < (((V.rows a.l).length : Nat) : Int))) = true, (0 : Int) ≤ ((i : Nat) : Int), (V.rows a.l)[(((i : Nat) : Int) : Int).toNat]? = some (VC x), (0 : Int) ≤ 0, (V.rows x.l)[(0 : Int).toNat]? = some (VC (x.l[0]?.getD default)), (((V.rows s) : List (List T)).length + ([(VC (x.l[0]?.getD default))] : List (List T)).length) * 64 ≤ 140737488355328, ((V.rows s) : List (List T)).length + ([(VC (x.l[0]?.getD default))] : List (List T)).length ≤ 274877906944, ∀ z, z ∈ ((V.rows s) : List (List T)) → z.length = 5, ∀ z, z ∈ ([(VC (x.l[0]?.getD default))] : List (List T)) → z.length = 5]⟩ by kernel_rfl) (pc (lt_tt hi (V.rows_length _)) (pc (Int.natCast_nonneg _) (pc (V.rows_at hx) (pc (by decide) (pc (V.rows_pick  (i := 0) (by first | exact h0 h5 | (have := hp x (List.mem_of_getElem? hx); omega))) (pc (by simp only [V.rows_length, List.length_cons, List.length_nil, Nat.zero_add] at *; omega) (pc (by simp only [V.rows_length, List.length_cons, List.length_nil, Nat.zero_add] at *; omega) (pc (V.rows_z _) (pc (by simp) pn))))))))) cn
     rw [wrap_succ hi hlen] at hr
     have e0_0 : V.rows (s ++ [(x.l[0]?.getD default)]) = ((V.rows s) ++ [(VC (x.l[0]?.getD default))]) := V.rows_snoc _ _
     rw [← e0_0] at hr
     exact ⟨hr, (by simp only [List.length_append, List.length_cons, List.length_nil] at *; omega)⟩
   exact co Tryz.func29 (by kernel_rfl) (show runF TP 99 Tryz.f29 [(.ptr 1000000 0), (tS b), (tL (V.rows c))] [.os [(tL (V.rows a.l))]] [.is .any] [rg [0, 1, 2, 6] [6, 1000000], rg [0, 2, 6, 18] [6, 1000000], rg [0, 2, 6, 18, 19] [6, 1000000], b0 [0, 2, 6, 18] [6, 1000000], rg [0, 2, 6, 18, 26] [6, 1000000], b0 [0, 2, 6, 18] [6, 1000000], rg [0, 2, 6, 18, 57] [6, 1000000], b0 [0, 2, 6, 18] [6, 1000000], rg [0, 2, 6, 18, 91] [6, 1000000], b0 [0, 2, 6, 18] [6, 1000000], rg [0, 2, 6, 18, 96] [6, 1000000], b0 [0, 6, 18] [6, 1000000], rg [0, 6, 18, 112] [6, 1000000], b1 [0, 6] [6, 1000000], rg [0, 6, 10] [6, 10, 1000000], .reg [] [.armB 10 4 5131 5] [6, 10, 118, 119, 120] [6, 10, 5131, 1000000], .cut (.exit 1) ⟨163, [(6, (.ptr 6 0)), (10, (.ptr 10 0))], [(6, .os [(tI 0), (tI 0), (tF (some 0)), (tS bE), (.tight [])]), (10, .os [(tI 4), (tI 0), (tF (some 0)), (tS bE), (.own 5131 5 (V.rows (lp2 (m29_b0 a b c) a.l 0 ([]))))]), (5131, .op 5 (V.rows (lp2 (m29_b0 a b c) a.l 0 ([])))), (1000000, .os [(tL (V.rows a.l))])]⟩, rg [6] [6, 1000000]] = some ⟨.ret (.agg [(tI 4), (tI 0), (tF (some 0)), (tS bE), (tL (V.rows (lp2 (m29_b0 a b c) a.l 0 ([]))))]), [.is (.os [(tL (V.rows a.l))])], [], [(b.toList == (ByteArray.mk #[111, 112, 101, 110]).toList) = false, (b.toList == (ByteArray.mk #[99, 108, 111, 115, 101]).toList) = false, (b.toList == (ByteArray.mk #[100, 101, 112, 111, 115, 105, 116]).toList) = false, (b.toList == (ByteArray.mk #[116, 114, 97, 110, 115, 102, 101, 114]).toList) = false, _, _, _]⟩ by kernel_rfl) (pc ho (pc hc (pc hd (pc ht (pc h5 (pc h6 (pc hl1 pn))))))) cn
 ·cases h6 : (m56 a (c[0]?.getD default)) with
  | pan q6 => 
   rw [show m29 a b c = .pan q6 by simp only [m29, h5, h6, cond_true, cond_false]]
   exact co Tryz.func29 (by kernel_rfl) (show runF TP 99 Tryz.f29 [(.ptr 1000000 0), (tS b), (tL (V.rows c))] [.os [(tL (V.rows a.l))]] [.gone] [rg [0, 1, 2, 6] [6, 1000000], rg [0, 2, 6, 18] [6, 1000000], rg [0, 2, 6, 18, 19] [6, 1000000], b0 [0, 2, 6, 18] [6, 1000000], rg [0, 2, 6, 18, 26] [6, 1000000], b0 [0, 2, 6, 18] [6, 1000000], rg [0, 2, 6, 18, 57] [6, 1000000], b0 [0, 2, 6, 18] [6, 1000000], rg [0, 2, 6, 18, 91] [6, 1000000], b0 [0, 2, 6, 18] [6, 1000000], rg [0, 2, 6, 18, 96] [6, 1000000], b1 [0, 2, 6] [6, 1000000], .drw [[], [], [], [], [], [], [.cellsT (VC (c[0]?.getD default))], [], [.bor (.pan q6) [1000000] [(.cp [(.sl (V.rows a.l))]), (VM (c[0]?.getD default))]], [], [], [], [], [], []] [] [] []] = some ⟨.pan q6, [.gone], [(56, [(.cp [(.sl (V.rows a.l))]), (VM (c[0]?.getD default))], [], .pan q6, [])], [(b.toList == (ByteArray.mk #[111, 112, 101, 110]).toList) = false, (b.toList == (ByteArray.mk #[99, 108, 111, 115, 101]).toList) = false, (b.toList == (ByteArray.mk #[100, 101, 112, 111, 115, 105, 116]).toList) = false, (b.toList == (ByteArray.mk #[116, 114, 97, 110, 115, 102, 101, 114]).toList) = false, _, (0 : Int) ≤ 0, (V.rows c)[(0 : Int).toNat]? = some (VC (c[0]?.getD default)), VmL (rstr (lookB [(6, .os [(tI 0), (tI 0), (tF (some 0)), (tS bE), (.tight [])]), (1000000, .os [(tL (V.rows a.l))])]) [1000000]) [(.ptr 1000000 0), (VM (c[0]?.getD default))] [(.cp [(.sl (V.rows a.l))]), (VM (c[0]?.getD default))]]⟩ by kernel_rfl) (pc ho (pc hc (pc hd (pc ht (pc h5 (pc (by decide) (pc (V.rows_pick  (i := 0) (by first | exact h0 h5 | (have := hp x (List.mem_of_getElem? hx); omega))) (pc (VmL.cons (vm_one rfl (.t _)) (VmL.cons (vm_plain _ rfl) (.nil _))) pn)))))))) (cc (by have hc := (f56_ok a (c[0]?.getD default) (fun x hx => Nat.lt_of_succ_lt (hp x hx))); rw [h6] at hc; exact hc) cn)
  | ret q6 => 
   rw [show m29 a b c = .ret (((a.l[(q6 : Int).toNat]?.getD default).l)[1]?.getD default) by simp only [m29, h5, h6, cond_true, cond_false]]
   exact co Tryz.func29 (by kernel_rfl) (show runF TP 99 Tryz.f29 [(.ptr 1000000 0), (tS b), (tL (V.rows c))] [.os [(tL (V.rows a.l))]] [.is .any] [rg [0, 1, 2, 6] [6, 1000000], rg [0, 2, 6, 18] [6, 1000000], rg [0, 2, 6, 18, 19] [6, 1000000], b0 [0, 2, 6, 18] [6, 1000000], rg [0, 2, 6, 18, 26] [6, 1000000], b0 [0, 2, 6, 18] [6, 1000000], rg [0, 2, 6, 18, 57] [6, 1000000], b0 [0, 2, 6, 18] [6, 1000000], rg [0, 2, 6, 18, 91] [6, 1000000], b0 [0, 2, 6, 18] [6, 1000000], rg [0, 2, 6, 18, 96] [6, 1000000], b1 [0, 2, 6] [6, 1000000], .drw [[], [], [], [], [], [], [.cellsT (VC (c[0]?.getD default))], [], [.bor (.ret (tI q6)) [1000000] [(.cp [(.sl (V.rows a.l))]), (VM (c[0]?.getD default))]], [.cellsT (VC (a.l[(q6 : Int).toNat]?.getD default))], [], [], [.cellsT (VC (((a.l[(q6 : Int).toNat]?.getD default).l)[1]?.getD default))], [], []] [] [6] [6, 1000000]] = some ⟨.ret (VM (((a.l[(q6 : Int).toNat]?.getD default).l)[1]?.getD default)), [.is (.os [(tL (V.rows a.l))])], [(56, [(.cp [(.sl (V.rows a.l))]), (VM (c[0]?.getD default))], [], .ret (tI q6), [])], [(b.toList == (ByteArray.mk #[111, 112, 101, 110]).toList) = false, (b.toList == (ByteArray.mk #[99, 108, 111, 115, 101]).toList) = false, (b.toList == (ByteArray.mk #[100, 101, 112, 111, 115, 105, 116]).toList) = false, (b.toList == (ByteArray.mk #[116, 114, 97, 110, 115, 102, 101, 114]).toList) = false, (b.toList == (ByteArray.mk #[98, 97, 108, 97, 110, 99, 101]).toList) = true, (0 : Int) ≤ 0, (V.rows c)[(0 : Int).toNat]? = some (VC (c[0]?.getD default)), VmL (rstr (lookB [(6, .os [(tI 0), (tI 0), (tF (some 0)), (tS bE), (.tight [])]), (1000000, .os [(tL (V.rows a.l))])]) [1000000]) [(.ptr 1000000 0), (VM (c[0]?.getD default))] [(.cp [(.sl (V.rows a.l))]), (VM (c[0]?.getD default))], (0 : Int) ≤ q6, (V.rows a.l)[(q6 : Int).toNat]? = some (VC (a.l[(q6 : Int).toNat]?.getD default)), (0 : Int) ≤ 1, (V.rows ((a.l[(q6 : Int).toNat]?.getD default).l))[(1 : Int).toNat]? = some (VC (((a.l[(q6 : Int).toNat]?.getD default).l)[1]?.getD default))]⟩ by kernel_rfl) (pc ho (pc hc (pc hd (pc ht (pc h5 (pc (by decide) (pc (V.rows_pick  (i := 0) (by first | exact h0 h5 | (have := hp x (List.mem_of_getElem? hx); omega))) (pc (VmL.cons (vm_one rfl (.t _)) (VmL.cons (vm_plain _ rfl) (.nil _))) (pc (m56_bnd _ _ (Nat.le_trans hl (by decide)) h6).1 (pc (pickI V.rows_get (m56_bnd _ _ (Nat.le_trans hl (by decide)) h6).2) (pc (by decide) (pc (V.rows_pick  (i := 1) (by first | exact hp _ (getD_mem (m56_bnd _ _ (Nat.le_trans hl (by decide)) h6).2) | (have := hp x (List.mem_of_getElem? hx); omega))) pn)))))))))))) (cc (by have hc := (f56_ok a (c[0]?.getD default) (fun x hx => Nat.lt_of_succ_lt (hp x hx))); rw [h6] at hc; exact hc) cn)
end Go.Bm

