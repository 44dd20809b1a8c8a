import Derived.Test.YthgocpanlbmalaaGreatBmG
import Derived.Test.YthgocpanlbmalaaGreatProg
import Derived.KernelRfl
set_option linter.unusedVariables false
set_option linter.unusedSimpArgs false
/- Printed by amx.py: what the program's functions come to. -/
set_option maxHeartbeats 4000000
namespace Go.Bm
open Go Go.Proofs
structure QArgsMethod where
 name : ByteArray
 takes : ByteArray
 writes : Bool
 deriving Inhabited
def QArgsMethod.cells (v : QArgsMethod) : List T := [(sS v.name), (sS v.takes), (sB v.writes)]
def QArgsMethod.rows (l : List QArgsMethod) : List (List T) := l.map QArgsMethod.cells
theorem QArgsMethod.rows_length (l : List QArgsMethod) : (QArgsMethod.rows l).length = l.length := by simp [QArgsMethod.rows]
theorem QArgsMethod.rows_get (l : List QArgsMethod) (i : Nat) : (QArgsMethod.rows l)[i]? = l[i]?.map QArgsMethod.cells := by simp [QArgsMethod.rows]
theorem QArgsMethod.rows_at {l : List QArgsMethod} {i : Nat} {x : QArgsMethod} (h : l[i]? = some x) : (QArgsMethod.rows l)[((i : Nat) : Int).toNat]? = some x.cells := by
 have : ((i : Nat) : Int).toNat = i := rfl
 rw [this, QArgsMethod.rows_get, h]
 rfl
structure QChoirref8Method where
 name : ByteArray
 takes : ByteArray
 writes : Bool
 deriving Inhabited
def QChoirref8Method.cells (v : QChoirref8Method) : List T := [(sS v.name), (sS v.takes), (sB v.writes)]
def QChoirref8Method.rows (l : List QChoirref8Method) : List (List T) := l.map QChoirref8Method.cells
theorem QChoirref8Method.rows_length (l : List QChoirref8Method) : (QChoirref8Method.rows l).length = l.length := by simp [QChoirref8Method.rows]
theorem QChoirref8Method.rows_get (l : List QChoirref8Method) (i : Nat) : (QChoirref8Method.rows l)[i]? = l[i]?.map QChoirref8Method.cells := by simp [QChoirref8Method.rows]
theorem QChoirref8Method.rows_at {l : List QChoirref8Method} {i : Nat} {x : QChoirref8Method} (h : l[i]? = some x) : (QChoirref8Method.rows l)[((i : Nat) : Int).toNat]? = some x.cells := by
 have : ((i : Nat) : Int).toNat = i := rfl
 rw [this, QChoirref8Method.rows_get, h]
 rfl
structure QLedgerBook where
 l : (List V)
 deriving Inhabited
theorem zapp {α : Type} {z : Nat} {xs ys : List (List α)} (h : ∀ x, x ∈ xs → x.length = z) (k : ∀ x, x ∈ ys → x.length = z) : ∀ x, x ∈ xs ++ ys → x.length = z := fun x hx => by
 rcases List.mem_append.1 hx with hx | hx
 ·exact h x hx
 ·exact k x hx
theorem getD_mem {α : Type} [Inhabited α] {l : List α} {i : Nat} (h : i < l.length) : l[i]?.getD default ∈ l := by
 rw [List.getElem?_eq_getElem h]; exact List.getElem_mem h
theorem lt69 {α : Type} {l : List α} {n : Nat} {rows : List (List T)} (h : decide (((n : Nat) : Int) < ((rows.length : Nat) : Int)) = true) (hr : rows.length = l.length := by exact V.rows_length _) : n < l.length := by
 have := of_decide_eq_true h
 omega
structure P70 (a : V) (b : Int) (c : Bool) : Prop where
 h0 : 0 ≤ b
 h1 : b.toNat ≤ a.l.length
 h2 : c = true → b.toNat < a.l.length
 h3 : a.l.length ≤ 1000000
def argsN (m : ByteArray) : Nat :=
 bif m.toList == (ByteArray.mk #[111, 112, 101, 110]).toList then 1 else
 bif m.toList == (ByteArray.mk #[99, 108, 111, 115, 101]).toList then 1 else
 bif m.toList == (ByteArray.mk #[100, 101, 112, 111, 115, 105, 116]).toList then 2 else
 bif m.toList == (ByteArray.mk #[116, 114, 97, 110, 115, 102, 101, 114]).toList then 3 else
 bif m.toList == (ByteArray.mk #[98, 97, 108, 97, 110, 99, 101]).toList then 1 else 0
theorem str_ne {t x y : List UInt8} (h : (t == x) = true) (hxy : (x == y) = false) : (t == y) = false := by
 rw [eq_of_beq h]; exact hxy
def m47 (a : Option Nat) : Int := bitsOf a
theorem f47_ok (a : Option Nat) (hs : a.isSome = true) : CallOk TP 47 [(tF a)] [] (.ret (.t (.s (.int .u64 (m47 a))))) [] := by
 obtain ⟨b, rfl, hb⟩ := eq_bits hs
 exact callOk_extern Tryz.func47 (by kernel_rfl) (by kernel_rfl) (by kernel_rfl) (e := Extern.MathFloatBits.float64bits) (by kernel_rfl) (f64bits_ok b)
def m80 (n : Int) : Option Nat := some n.toNat
theorem f80_ok (n : Int) : CallOk TP 80 [(.t (.s (.int .u64 n)))] [] (.ret (tF (m80 n))) [] :=
 callOk_extern Tryz.func80 (by kernel_rfl) (by kernel_rfl) (by kernel_rfl) (e := Extern.MathFloatBits.float64frombits) (by kernel_rfl) (f64frombits_ok n)
def m117 (a b : ByteArray) : Int := Extern.BytealgCompare.cmp a b
theorem f117_ok (a b : ByteArray) : CallOk TP 117 [(tS a), (tS b)] [] (.ret (tI (m117 a b))) [] :=
 callOk_extern Tryz.func117 (by kernel_rfl) (by kernel_rfl) (by kernel_rfl) (e := Extern.BytealgCompare.compare) (by kernel_rfl) (cmpstr_ok a b)
mutual
def V.sz : V → Int
 | .mk k _ _ s l => bif k == 1 then 9 else bif k == 2 then 9 else bif k == 3 then 3 + (s.size : Int) else bif k == 4 then 2 + V.szs l else 1
def V.szs : List V → Int
 | [] => 0
 | v :: r => v.sz + V.szs r
end
theorem wrap_wrap (a b : Int) : IntKind.i64.wrap (IntKind.i64.wrap a + IntKind.i64.wrap b) = IntKind.i64.wrap (a + b) := by simp only [IntKind.wrap_i64]; omega
theorem wrap_wrapl (a b : Int) : IntKind.i64.wrap (a + IntKind.i64.wrap b) = IntKind.i64.wrap (a + b) := by simp only [IntKind.wrap_i64]; omega
def canon (f : Option Nat) : Option Nat := bif (fo f f != some .eq) then some 9221120237041090561 else f
theorem canon_some (f : Option Nat) : (canon f).isSome = true := by
 unfold canon
 cases h : (fo f f != some .eq)
 ·exact nan_some h
 ·rfl
mutual
def V.deep : V → Int → Bool
 | .mk k _ _ _ l, b => bif k != 4 then false else bif b == 0 then true else V.deeps l (IntKind.i64.wrap (b - 1))
def V.deeps : List V → Int → Bool
 | [], _ => false
 | v :: r, b => v.deep b || V.deeps r b
end
mutual
def V.kinds : V → Bool
 | .mk k _ _ _ l => bif decide (k < 0) then false else bif decide (k > 4) then false else bif k == 4 then V.kindss l else true
def V.kindss : List V → Bool
 | [] => true
 | v :: r => v.kinds && V.kindss r
end
mutual
def V.great : V → Int → Bool
 | .mk k _ _ s l, b => bif k == 3 then decide ((s.size : Int) > 256) else bif k != 4 then false else bif decide (b ≥ 8) then true else
  bif decide ((l.length : Int) > 64) then true else V.greats l (IntKind.i64.wrap (b + 1))
def V.greats : List V → Int → Bool
 | [], _ => false
 | v :: r, b => v.great b || V.greats r b
end
def bitsC (f : Option Nat) : Int := bitsOf (canon f)
mutual
def V.same : V → V → Bool
 | .mk k i f s l, b => bif k != b.k then false else bif i != b.i then false else bif bitsC f != bitsC b.f then false else bif s.toList == b.s.toList then
  (bif (l.length : Int) != (b.l.length : Int) then false else V.sames l b.l) else false
def V.sames : List V → List V → Bool
 | [], _ => true
 | v :: r, b => v.same (b[0]?.getD default) && V.sames r (b.drop 1)
end
mutual
def V.clean : V → V
 | .mk k i f s l => bif k == 1 then .mk 1 i (some 0) bE [] else bif k == 2 then .mk 2 0 (canon f) bE [] else
  bif k == 3 then .mk 3 0 (some 0) s [] else bif k == 4 then .mk 4 0 (some 0) bE (V.cleans l) else .mk 0 0 (some 0) bE []
def V.cleans : List V → List V
 | [] => []
 | v :: r => v.clean :: V.cleans r
end
def V.wsz (v : V) : Int := IntKind.i64.wrap v.sz
def geZ (x : Int) : Bool := decide (x ≥ 0)
mutual
def V.strange : V → Bool
 | .mk k _ _ _ l => bif decide (k < 0) then true else bif decide (k > 4) then true else bif k == 4 then V.stranges l else false
def V.stranges : List V → Bool
 | [] => false
 | v :: r => v.strange || V.stranges r
end
mutual
def V.big : V → Int → Bool
 | .mk k _ _ s l, d => bif k == 3 then decide ((s.size : Int) > 256) else bif k == 4 then (bif decide ((l.length : Int) > 64) then true else bif decide (d < 1) then true else V.bigs l (IntKind.i64.wrap (d - 1))) else false
def V.bigs : List V → Int → Bool
 | [], _ => false
 | v :: r, d => v.big d || V.bigs r d
end
structure P39 (a : V) (b : ByteArray) (c : List V) : Prop where
 hm : (b.toList == (ByteArray.mk #[98, 97, 108, 97, 110, 99, 101]).toList) = true ∨ (b.toList == (ByteArray.mk #[99, 108, 111, 115, 101]).toList) = true ∨ (b.toList == (ByteArray.mk #[100, 101, 112, 111, 115, 105, 116]).toList) = true ∨ (b.toList == (ByteArray.mk #[110, 97, 109, 101, 115]).toList) = true ∨ (b.toList == (ByteArray.mk #[111, 112, 101, 110]).toList) = true ∨ (b.toList == (ByteArray.mk #[116, 111, 116, 97, 108]).toList) = true ∨ (b.toList == (ByteArray.mk #[116, 114, 97, 110, 115, 102, 101, 114]).toList) = true
 hp : ∀ x ∈ a.l, 1 < x.l.length
 hl : a.l.length ≤ 1000000
 hn1 : (b.toList == (ByteArray.mk #[100, 101, 112, 111, 115, 105, 116]).toList) = true → 1 < c.length
 hn2 : (b.toList == (ByteArray.mk #[116, 114, 97, 110, 115, 102, 101, 114]).toList) = true → 2 < c.length
 hn0 : (b.toList == (ByteArray.mk #[110, 97, 109, 101, 115]).toList) = false → (b.toList == (ByteArray.mk #[116, 111, 116, 97, 108]).toList) = false → 0 < c.length
theorem bne0 {x : Int} (h : (x != (0 : Int)) = false) : x = 0 := by simpa using h
theorem sidx32 {n i : Nat} {c : List V} (h : (((n : Nat) : Int) != (((V.rows c).length : Nat) : Int)) = false) (hi : i < c.length) : ((i : Nat) : Int) < ((n : Nat) : Int) := by
 have h := bne_eq_false_iff_eq.1 h
 rw [V.rows_length] at h
 omega
def m96 (a : (Option Nat)) : Bool :=
 (fo a a != some .eq)
theorem f96_ok (a : (Option Nat)) : CallOk TP 96 [(tF a)] [] (.ret (tB (m96 a))) [] := by
 rw [show m96 a = (fo a a != some .eq) by simp only [m96]]
 exact co Tryz.func96 (by kernel_rfl) (show runF TP 99 Tryz.f96 [(tF a)] [] [] [rg [0] [], rg [2] []] = some ⟨.ret (tB (fo a a != some .eq)), [], [], []⟩ by kernel_rfl) pn cn
def m111 (a : (Option Nat)) : (Option Nat) :=
 (m80 (IntKind.u64.wrap (BitVec.ofInt IntKind.u64.bits (m47 a) &&& ~~~ BitVec.ofInt IntKind.u64.bits 9223372036854775808).toNat))
theorem f111_ok (a : (Option Nat)) (hs : a.isSome = true) : CallOk TP 111 [(tF a)] [] (.ret (tF (m111 a))) [] := by
 rw [show m111 a = (m80 (IntKind.u64.wrap (BitVec.ofInt IntKind.u64.bits (m47 a) &&& ~~~ BitVec.ofInt IntKind.u64.bits 9223372036854775808).toNat)) by simp only [m111]]
 exact co Tryz.func111 (by kernel_rfl) (show runF TP 99 Tryz.f111 [(tF a)] [] [] [rg [0] [], .reg [(rr (.t (.s (.int .u64 (m47 a))))), (rr (tF (m80 (IntKind.u64.wrap (BitVec.ofInt IntKind.u64.bits (m47 a) &&& ~~~ BitVec.ofInt IntKind.u64.bits 9223372036854775808).toNat))))] [] [2] []] = some ⟨.ret (tF (m80 (IntKind.u64.wrap (BitVec.ofInt IntKind.u64.bits (m47 a) &&& ~~~ BitVec.ofInt IntKind.u64.bits 9223372036854775808).toNat))), [], _, []⟩ by kernel_rfl) pn (cc (f47_ok a (by assumption)) (cc (f80_ok (IntKind.u64.wrap (BitVec.ofInt IntKind.u64.bits (m47 a) &&& ~~~ BitVec.ofInt IntKind.u64.bits 9223372036854775808).toNat)) cn))
def m97 (a : (Option Nat)) : Bool :=
 (fo (m111 a) (some 9218868437227405311) == some .gt)
theorem f97_ok (a : (Option Nat)) (hs : a.isSome = true) : CallOk TP 97 [(tF a), (tI 0)] [] (.ret (tB (m97 a))) [] := by
 rw [show m97 a = (fo (m111 a) (some 9218868437227405311) == some .gt) by simp only [m97]]
 exact co Tryz.func97 (by kernel_rfl) (show runF TP 99 Tryz.f97 [(tF a), (tI 0)] [] [] [rg [0, 1] [], rg [0, 1, 6] [], b1 [0] [], .reg [(rr (tF (m111 a)))] [] [0] [], rg [4] []] = some ⟨.ret (tB (fo (m111 a) (some 9218868437227405311) == some .gt)), [], _, [true = true]⟩ by kernel_rfl) (pc rfl pn) (cc (f111_ok a (by assumption)) cn)
def m75 (a : V) : Bool :=
 bif (a.k == (1 : Int)) then
  true
 else
  bif (a.k == (2 : Int)) then
   bif (m96 a.f) then
    false
   else
    (!(m97 a.f))
  else
   false
theorem f75_ok (a : V) : CallOk TP 75 [(VM a)] [] (.ret (tB (m75 a))) [] := by
 cases h1 : (a.k == (1 : Int))
 ·cases h2 : (a.k == (2 : Int))
  ·rw [show m75 a = false by simp only [m75, h1, h2, cond_true, cond_false]]
   exact co Tryz.func75 (by kernel_rfl) (show runF TP 99 Tryz.f75 [(VM a)] [] [] [rg [1] [1], .reg [.bit false, .bit false, .bit false] [] [2] []] = some ⟨.ret (tB false), [], [], [_, _, false = false]⟩ by kernel_rfl) (pc h1 (pc h2 (pc rfl pn))) cn
  ·cases h3 : (m96 a.f)
   ·rw [show m75 a = (!(m97 a.f)) by simp only [m75, h1, h2, h3, cond_true, cond_false]]
    exact co Tryz.func75 (by kernel_rfl) (show runF TP 99 Tryz.f75 [(VM a)] [] [] [rg [1] [1], .reg [.bit false, .bit true, (rr (tB (m96 a.f))), .bit true, (rr (tB (m97 a.f)))] [] [2] []] = some ⟨.ret (tB (!(m97 a.f))), [], _, [_, _, _]⟩ by kernel_rfl) (pc h1 (pc h2 (pc (not_tt h3) pn))) (cc (f96_ok a.f) (cc (f97_ok a.f (nan_some h3)) cn))
   ·rw [show m75 a = false by simp only [m75, h1, h2, h3, cond_true, cond_false]]
    exact co Tryz.func75 (by kernel_rfl) (show runF TP 99 Tryz.f75 [(VM a)] [] [] [rg [1] [1], .reg [.bit false, .bit true, (rr (tB (m96 a.f))), .bit false] [] [2] []] = some ⟨.ret (tB false), [], _, [_, _, _]⟩ by kernel_rfl) (pc h1 (pc h2 (pc (not_ff h3) pn))) (cc (f96_ok a.f) cn)
 ·rw [show m75 a = true by simp only [m75, h1, cond_true, cond_false]]
  exact co Tryz.func75 (by kernel_rfl) (show runF TP 99 Tryz.f75 [(VM a)] [] [] [rg [1] [1], .reg [.bit true] [] [2] []] = some ⟨.ret (tB true), [], [], [_]⟩ by kernel_rfl) (pc h1 pn) cn
def m84_b0 (a : V) (x : V) (i : Nat) (s : Int) : Int :=
 (IntKind.i64.wrap (s + (V.wsz x)))
def m84 (a : V) : Int :=
 bif (a.k == (1 : Int)) then
  9
 else
  bif (a.k == (2 : Int)) then
   9
  else
   bif (a.k == (3 : Int)) then
    (IntKind.i64.wrap (1 + (IntKind.i64.wrap (2 + (a.s.size : Int)))))
   else
    bif (a.k == (4 : Int)) then
     (lp2 (m84_b0 a) a.l 0 2)
    else
     1
theorem m84_loop (a : V) : ∀ (l : List V) (i : Nat) (s : Int), lp2 (m84_b0 a) l i (IntKind.i64.wrap s) = IntKind.i64.wrap (s + V.szs l)
 | [], i, s => by simp [lp2, V.szs]
 | x :: r, i, s => by
  have e : m84_b0 a x i (IntKind.i64.wrap s) = IntKind.i64.wrap (s + x.sz) := by simp only [m84_b0, V.wsz, wrap_wrap]
  simp only [lp2, e, m84_loop a r, V.szs, Int.add_assoc]
theorem vwsz_eq (a : V) : V.wsz a = m84 a := by
 have h := m84_loop a a.l 0 2
 rw [show IntKind.i64.wrap 2 = 2 by simp [IntKind.wrap_i64]] at h
 unfold m84
 rw [h]
 try simp only [wrap_wrapl]
 obtain ⟨k, i, f, s, l⟩ := a
 simp only [V.wsz, V.sz, V.k, V.s, V.l]
 cases k == 1 <;> cases k == 2 <;> cases k == 3 <;> cases k == 4 <;> simp <;> simp only [IntKind.wrap_i64] <;> omega
theorem f84_ok (a : V) : CallOk TP 84 [(VM a)] [] (.ret (tI (V.wsz a))) [] := by
 refine V.induct (p := fun a => CallOk TP 84 [(VM a)] [] (.ret (tI (V.wsz a))) []) ?_ a; intro a ih
 rw [vwsz_eq a]
 refine CallOk.short fun hsh => ?_
 cases h1 : (a.k == (1 : Int))
 ·cases h2 : (a.k == (2 : Int))
  ·cases h3 : (a.k == (3 : Int))
   ·cases h4 : (a.k == (4 : Int))
    ·rw [show m84 a = 1 by simp only [m84, h1, h2, h3, h4, cond_true, cond_false]]
     exact co Tryz.func84 (by kernel_rfl) (show runF TP 99 Tryz.f84 [(VM a)] [] [] [rg [1] [1], rg [1, 3] [1], rg [1, 3, 7] [1], rg [1, 3, 7, 8] [1], b0 [1, 3, 7] [1], rg [1, 3, 7, 8] [1], b0 [1, 3, 7] [1], rg [1, 3, 7, 13] [1], b0 [1, 3, 7] [1], rg [1, 3, 21] [1], b0 [3] [], rg [2] []] = some ⟨.ret (tI 1), [], [], [_, _, _, _]⟩ by kernel_rfl) (pc h1 (pc h2 (pc h3 (pc h4 pn)))) cn
    ·rw [show m84 a = (lp2 (m84_b0 a) a.l 0 2) by simp only [m84, h1, h2, h3, h4, cond_true, cond_false]]
     have hlen : a.l.length ≤ 274877906944 := (V.short_of hsh.1).len
     have hl1 : W TP (bodyAt Tryz.f84 [1, 1, 0, 1, 0, 1, 1, 1, 1, 1, 0, 1, 1, 0]) ⟨38, [(3, (tI 2)), (26, (tL (V.rows a.l))), (27, (tI (((V.rows a.l).length : Nat) : Int))), (28, (tI 0))], []⟩ (One (.exit 1) ((fun (i : Nat) (s : Int) => (⟨38, [(3, (tI s))], []⟩ : St)) a.l.length (lp2 (m84_b0 a) a.l 0 2))) := by
      refine lp2_W (e := (.exit 1)) (c := bodyAt Tryz.f84 [1, 1, 0, 1, 0, 1, 1, 1, 1, 1, 0, 1, 1, 0, 0]) a.l (fun (i : Nat) (s : Int) => (⟨38, [(3, (tI s)), (26, (tL (V.rows a.l))), (27, (tI (((V.rows a.l).length : Nat) : Int))), (28, (tI ((i : Nat) : Int)))], []⟩ : St)) (fun (i : Nat) (s : Int) => (⟨38, [(3, (tI s))], []⟩ : St)) (m84_b0 a) (fun (i : Nat) (s : Int) => (True : Prop)) 2 trivial (by kernel_rfl) (by simp) ?_ ?_
      ·intro s hI
       exact wo (show run TP 99 (bodyAt Tryz.f84 [1, 1, 0, 1, 0, 1, 1, 1, 1, 1, 0, 1, 1, 0, 0]) ⟨38, [(3, (tI s)), (26, (tL (V.rows a.l))), (27, (tI (((V.rows a.l).length : Nat) : Int))), (28, (tI ((a.l.length : Nat) : Int)))], []⟩ [rg [3, 26, 27, 28, 29] [], b0 [3] []] = some ⟨(.exit 1), ⟨38, [(3, (tI s))], []⟩, [], [], [(decide (((a.l.length : Nat) : Int) < (((V.rows a.l).length : Nat) : Int))) = false]⟩ by kernel_rfl) (pc (lt_ff (V.rows_length _)) pn) cn
      ·intro i x s hx hi hI
       have hb : (m84_b0 a) x i s = (IntKind.i64.wrap (s + (V.wsz x))) := by simp only [m84_b0]
       rw [hb]
       have hr := wo (show run TP 99 (bodyAt Tryz.f84 [1, 1, 0, 1, 0, 1, 1, 1, 1, 1, 0, 1, 1, 0, 0]) ⟨38, [(3, (tI s)), (26, (tL (V.rows a.l))), (27, (tI (((V.rows a.l).length : Nat) : Int))), (28, (tI ((i : Nat) : Int)))], []⟩ [rg [3, 26, 27, 28, 29] [], b1 [3, 26, 27, 28] [], .reg [.cellsT (VC x)] [] [3, 5, 26, 27, 28] [5], .reg [(rr (tI (V.wsz x)))] [] [3, 26, 27, 28] [], rg [3, 26, 27, 28] []] = some ⟨.normal, ⟨38, [(3, (tI (IntKind.i64.wrap (s + (V.wsz x))))), (26, (tL (V.rows a.l))), (27, (tI (((V.rows a.l).length : Nat) : Int))), (28, (tI (IntKind.i64.wrap (((i : Nat) : Int) + 1))))], []⟩, [], _, [(decide (((i : Nat) : Int) < (((V.rows a.l).length : Nat) : Int))) = true, (0 : Int) ≤ ((i : Nat) : Int), _]⟩ by kernel_rfl) (pc (lt_tt hi (V.rows_length _)) (pc (Int.natCast_nonneg _) (pc (V.rows_at hx) pn))) (cc (ih x (List.mem_of_getElem? hx)) cn)
       rw [wrap_succ hi hlen] at hr
       exact ⟨hr, trivial⟩
     exact co Tryz.func84 (by kernel_rfl) (show runF TP 99 Tryz.f84 [(VM a)] [] [] [rg [1] [1], rg [1, 3] [1], rg [1, 3, 7] [1], rg [1, 3, 7, 8] [1], b0 [1, 3, 7] [1], rg [1, 3, 7, 8] [1], b0 [1, 3, 7] [1], rg [1, 3, 7, 13] [1], b0 [1, 3, 7] [1], rg [1, 3, 21] [1], b1 [1, 3] [1], rg [1, 3] [1], rg [3, 26, 27, 28] [], .cut (.exit 1) ⟨38, [(3, (tI (lp2 (m84_b0 a) a.l 0 2)))], []⟩, rg [2] []] = some ⟨.ret (tI (lp2 (m84_b0 a) a.l 0 2)), [], [], [_, _, _, _, _]⟩ by kernel_rfl) (pc h1 (pc h2 (pc h3 (pc h4 (pc hl1 pn))))) cn
   ·rw [show m84 a = (IntKind.i64.wrap (1 + (IntKind.i64.wrap (2 + (a.s.size : Int))))) by simp only [m84, h1, h2, h3, cond_true, cond_false]]
    exact co Tryz.func84 (by kernel_rfl) (show runF TP 99 Tryz.f84 [(VM a)] [] [] [rg [1] [1], rg [1, 3] [1], rg [1, 3, 7] [1], rg [1, 3, 7, 8] [1], b0 [1, 3, 7] [1], rg [1, 3, 7, 8] [1], b0 [1, 3, 7] [1], rg [1, 3, 7, 13] [1], b1 [1, 3] [1], rg [3] [], rg [2] []] = some ⟨.ret (tI (IntKind.i64.wrap (1 + (IntKind.i64.wrap (2 + (a.s.size : Int)))))), [], [], [_, _, _]⟩ by kernel_rfl) (pc h1 (pc h2 (pc h3 pn))) cn
  ·rw [show m84 a = 9 by simp only [m84, h1, h2, cond_true, cond_false]]
   exact co Tryz.func84 (by kernel_rfl) (show runF TP 99 Tryz.f84 [(VM a)] [] [] [rg [1] [1], rg [1, 3] [1], rg [1, 3, 7] [1], rg [1, 3, 7, 8] [1], b0 [1, 3, 7] [1], rg [1, 3, 7, 8] [1], b1 [3] [], rg [3] [], rg [2] []] = some ⟨.ret (tI 9), [], [], [_, _]⟩ by kernel_rfl) (pc h1 (pc h2 pn)) cn
 ·rw [show m84 a = 9 by simp only [m84, h1, cond_true, cond_false]]
  exact co Tryz.func84 (by kernel_rfl) (show runF TP 99 Tryz.f84 [(VM a)] [] [] [rg [1] [1], rg [1, 3] [1], rg [1, 3, 7] [1], rg [1, 3, 7, 8] [1], b1 [1, 3, 7, 8] [1], b1 [3] [], rg [3] [], rg [2] []] = some ⟨.ret (tI 9), [], [], [_, _]⟩ by kernel_rfl) (pc h1 (pc h1 pn)) cn
def m43_b0 (a : V) (x : V) (i : Nat) (s : Int) : Int :=
 (IntKind.i64.wrap (s + (V.wsz x)))
def m43 (a : V) : Int :=
 bif (a.k == (1 : Int)) then
  9
 else
  bif (a.k == (2 : Int)) then
   9
  else
   bif (a.k == (3 : Int)) then
    (IntKind.i64.wrap (3 + (a.s.size : Int)))
   else
    bif (a.k == (4 : Int)) then
     (lp2 (m43_b0 a) a.l 0 2)
    else
     1
theorem m43_loop (a : V) : ∀ (l : List V) (i : Nat) (s : Int), lp2 (m43_b0 a) l i (IntKind.i64.wrap s) = IntKind.i64.wrap (s + V.szs l)
 | [], i, s => by simp [lp2, V.szs]
 | x :: r, i, s => by
  have e : m43_b0 a x i (IntKind.i64.wrap s) = IntKind.i64.wrap (s + x.sz) := by simp only [m43_b0, V.wsz, wrap_wrap]
  simp only [lp2, e, m43_loop a r, V.szs, Int.add_assoc]
theorem vwsz_eq43 (a : V) : V.wsz a = m43 a := by
 have h := m43_loop a a.l 0 2
 rw [show IntKind.i64.wrap 2 = 2 by simp [IntKind.wrap_i64]] at h
 unfold m43
 rw [h]
 try simp only [wrap_wrapl]
 obtain ⟨k, i, f, s, l⟩ := a
 simp only [V.wsz, V.sz, V.k, V.s, V.l]
 cases k == 1 <;> cases k == 2 <;> cases k == 3 <;> cases k == 4 <;> simp <;> simp only [IntKind.wrap_i64] <;> omega
theorem f43_ok (a : V) : CallOk TP 43 [(VM a)] [] (.ret (tI (V.wsz a))) [] := by
 refine V.induct (p := fun a => CallOk TP 43 [(VM a)] [] (.ret (tI (V.wsz a))) []) ?_ a; intro a ih
 rw [vwsz_eq43 a]
 refine CallOk.short fun hsh => ?_
 cases h1 : (a.k == (1 : Int))
 ·cases h2 : (a.k == (2 : Int))
  ·cases h3 : (a.k == (3 : Int))
   ·cases h4 : (a.k == (4 : Int))
    ·rw [show m43 a = 1 by simp only [m43, h1, h2, h3, h4, cond_true, cond_false]]
     exact co Tryz.func43 (by kernel_rfl) (show runF TP 99 Tryz.f43 [(VM a)] [] [] [rg [1] [1], rg [1, 6] [1], rg [1, 6, 7] [1], b0 [1, 6] [1], rg [1, 6, 7] [1], b0 [1, 6] [1], rg [1, 6, 10] [1], b0 [1, 6] [1], rg [1, 16] [1], b0 [] [], rg [2] []] = some ⟨.ret (tI 1), [], [], [_, _, _, _]⟩ by kernel_rfl) (pc h1 (pc h2 (pc h3 (pc h4 pn)))) cn
    ·rw [show m43 a = (lp2 (m43_b0 a) a.l 0 2) by simp only [m43, h1, h2, h3, h4, cond_true, cond_false]]
     have hlen : a.l.length ≤ 274877906944 := (V.short_of hsh.1).len
     have hl1 : W TP (bodyAt Tryz.f43 [1, 0, 1, 0, 1, 1, 1, 1, 1, 0, 1, 0, 1, 0]) ⟨34, [(1, (.ptr 1 0)), (3, (tI 2)), (4, (tI 0))], [(1, .os [(tI a.k), (tI a.i), (tF a.f), (tS a.s), (tL (V.rows a.l))])]⟩ (One (.exit 1) ((fun (i : Nat) (s : Int) => (⟨34, [(3, (tI s))], []⟩ : St)) a.l.length (lp2 (m43_b0 a) a.l 0 2))) := by
      refine lp2_W (e := (.exit 1)) (c := bodyAt Tryz.f43 [1, 0, 1, 0, 1, 1, 1, 1, 1, 0, 1, 0, 1, 0, 0]) a.l (fun (i : Nat) (s : Int) => (⟨34, [(1, (.ptr 1 0)), (3, (tI s)), (4, (tI ((i : Nat) : Int)))], [(1, .os [(tI a.k), (tI a.i), (tF a.f), (tS a.s), (tL (V.rows a.l))])]⟩ : St)) (fun (i : Nat) (s : Int) => (⟨34, [(3, (tI s))], []⟩ : St)) (m43_b0 a) (fun (i : Nat) (s : Int) => (True : Prop)) 2 trivial (by kernel_rfl) (by simp) ?_ ?_
      ·intro s hI
       exact wo (show run TP 99 (bodyAt Tryz.f43 [1, 0, 1, 0, 1, 1, 1, 1, 1, 0, 1, 0, 1, 0, 0]) ⟨34, [(1, (.ptr 1 0)), (3, (tI s)), (4, (tI ((a.l.length : Nat) : Int)))], [(1, .os [(tI a.k), (tI a.i), (tF a.f), (tS a.s), (tL (V.rows a.l))])]⟩ [rg [1, 3, 4, 22] [1], b0 [3] []] = some ⟨(.exit 1), ⟨34, [(3, (tI s))], []⟩, [], [], [(decide (((a.l.length : Nat) : Int) < (((V.rows a.l).length : Nat) : Int))) = false]⟩ by kernel_rfl) (pc (lt_ff (V.rows_length _)) pn) cn
      ·intro i x s hx hi hI
       have hb : (m43_b0 a) x i s = (IntKind.i64.wrap (s + (V.wsz x))) := by simp only [m43_b0]
       rw [hb]
       have hr := wo (show run TP 99 (bodyAt Tryz.f43 [1, 0, 1, 0, 1, 1, 1, 1, 1, 0, 1, 0, 1, 0, 0]) ⟨34, [(1, (.ptr 1 0)), (3, (tI s)), (4, (tI ((i : Nat) : Int)))], [(1, .os [(tI a.k), (tI a.i), (tF a.f), (tS a.s), (tL (V.rows a.l))])]⟩ [rg [1, 3, 4, 22] [1], b1 [1, 3, 4] [1], .reg [.cellsT (VC x), (rr (tI (V.wsz x)))] [] [1, 3, 4] [1], rg [1, 3, 4] [1]] = some ⟨.normal, ⟨34, [(1, (.ptr 1 0)), (3, (tI (IntKind.i64.wrap (s + (V.wsz x))))), (4, (tI (IntKind.i64.wrap (((i : Nat) : Int) + 1))))], [(1, .os [(tI a.k), (tI a.i), (tF a.f), (tS a.s), (tL (V.rows a.l))])]⟩, [], _, [(decide (((i : Nat) : Int) < (((V.rows a.l).length : Nat) : Int))) = true, (0 : Int) ≤ ((i : Nat) : Int), _]⟩ by kernel_rfl) (pc (lt_tt hi (V.rows_length _)) (pc (Int.natCast_nonneg _) (pc (V.rows_at hx) pn))) (cc (ih x (List.mem_of_getElem? hx)) cn)
       rw [wrap_succ hi hlen] at hr
       exact ⟨hr, trivial⟩
     exact co Tryz.func43 (by kernel_rfl) (show runF TP 99 Tryz.f43 [(VM a)] [] [] [rg [1] [1], rg [1, 6] [1], rg [1, 6, 7] [1], b0 [1, 6] [1], rg [1, 6, 7] [1], b0 [1, 6] [1], rg [1, 6, 10] [1], b0 [1, 6] [1], rg [1, 16] [1], b1 [1] [1], rg [1, 3] [1], rg [1, 3, 4] [1], .cut (.exit 1) ⟨34, [(3, (tI (lp2 (m43_b0 a) a.l 0 2)))], []⟩, rg [2] []] = some ⟨.ret (tI (lp2 (m43_b0 a) a.l 0 2)), [], [], [_, _, _, _, _]⟩ by kernel_rfl) (pc h1 (pc h2 (pc h3 (pc h4 (pc hl1 pn))))) cn
   ·rw [show m43 a = (IntKind.i64.wrap (3 + (a.s.size : Int))) by simp only [m43, h1, h2, h3, cond_true, cond_false]]
    exact co Tryz.func43 (by kernel_rfl) (show runF TP 99 Tryz.f43 [(VM a)] [] [] [rg [1] [1], rg [1, 6] [1], rg [1, 6, 7] [1], b0 [1, 6] [1], rg [1, 6, 7] [1], b0 [1, 6] [1], rg [1, 6, 10] [1], b1 [1] [1], rg [2] []] = some ⟨.ret (tI (IntKind.i64.wrap (3 + (a.s.size : Int)))), [], [], [_, _, _]⟩ by kernel_rfl) (pc h1 (pc h2 (pc h3 pn))) cn
  ·rw [show m43 a = 9 by simp only [m43, h1, h2, cond_true, cond_false]]
   exact co Tryz.func43 (by kernel_rfl) (show runF TP 99 Tryz.f43 [(VM a)] [] [] [rg [1] [1], rg [1, 6] [1], rg [1, 6, 7] [1], b0 [1, 6] [1], rg [1, 6, 7] [1], b1 [] [], rg [2] []] = some ⟨.ret (tI 9), [], [], [_, _]⟩ by kernel_rfl) (pc h1 (pc h2 pn)) cn
 ·rw [show m43 a = 9 by simp only [m43, h1, cond_true, cond_false]]
  exact co Tryz.func43 (by kernel_rfl) (show runF TP 99 Tryz.f43 [(VM a)] [] [] [rg [1] [1], rg [1, 6] [1], rg [1, 6, 7] [1], b1 [1, 6, 7] [1], b1 [] [], rg [2] []] = some ⟨.ret (tI 9), [], [], [_, _]⟩ by kernel_rfl) (pc h1 (pc h1 pn)) cn
def m21 (a : Int) : V :=
 (V.mk 1 a (some 0) bE [])
theorem f21_ok (a : Int) : CallOk TP 21 [(tI a)] [] (.ret (VM (m21 a))) [] := by
 rw [show m21 a = (V.mk 1 a (some 0) bE []) by simp only [m21]]
 exact co Tryz.func21 (by kernel_rfl) (show runF TP 99 Tryz.f21 [(tI a)] [] [] [rg [0, 2] [2], rg [2] [2]] = some ⟨.ret (.agg [(tI 1), (tI a), (tF (some 0)), (tS bE), (tL [])]), [], [], []⟩ by kernel_rfl) pn cn
def m46 (a : (Option Nat)) : (Option Nat) :=
 bif (fo a a != some .eq) then
  (m80 9221120237041090561)
 else
  a
theorem f46_ok (a : (Option Nat)) : CallOk TP 46 [(tF a)] [] (.ret (tF (m46 a))) [] := by
 cases h1 : (fo a a != some .eq)
 ·rw [show m46 a = a by simp only [m46, h1, cond_true, cond_false]]
  exact co Tryz.func46 (by kernel_rfl) (show runF TP 99 Tryz.f46 [(tF a)] [] [] [rg [0] [], rg [0, 5] [], b0 [0] [], rg [2] []] = some ⟨.ret (tF a), [], [], [_]⟩ by kernel_rfl) (pc h1 pn) cn
 ·rw [show m46 a = (m80 9221120237041090561) by simp only [m46, h1, cond_true, cond_false]]
  exact co Tryz.func46 (by kernel_rfl) (show runF TP 99 Tryz.f46 [(tF a)] [] [] [rg [0] [], rg [0, 5] [], b1 [] [], .reg [(rr (tF (m80 9221120237041090561)))] [] [2] []] = some ⟨.ret (tF (m80 9221120237041090561)), [], _, [_]⟩ by kernel_rfl) (pc h1 pn) (cc (f80_ok 9221120237041090561) cn)
def m20 (a : (Option Nat)) : V :=
 (V.mk 2 0 (m46 a) bE [])
theorem f20_ok (a : (Option Nat)) : CallOk TP 20 [(tF a)] [] (.ret (VM (m20 a))) [] := by
 rw [show m20 a = (V.mk 2 0 (m46 a) bE []) by simp only [m20]]
 exact co Tryz.func20 (by kernel_rfl) (show runF TP 99 Tryz.f20 [(tF a)] [] [] [rg [0, 2] [2], .reg [(rr (tF (m46 a)))] [] [2] [2]] = some ⟨.ret (.agg [(tI 2), (tI 0), (tF (m46 a)), (tS bE), (tL [])]), [], _, []⟩ by kernel_rfl) pn (cc (f46_ok a) cn)
def m19 (a : ByteArray) : V :=
 (V.mk 3 0 (some 0) a [])
theorem f19_ok (a : ByteArray) : CallOk TP 19 [(tS a)] [] (.ret (VM (m19 a))) [] := by
 rw [show m19 a = (V.mk 3 0 (some 0) a []) by simp only [m19]]
 exact co Tryz.func19 (by kernel_rfl) (show runF TP 99 Tryz.f19 [(tS a)] [] [] [rg [0, 2] [2], rg [2] [2]] = some ⟨.ret (.agg [(tI 3), (tI 0), (tF (some 0)), (tS a), (tL [])]), [], [], []⟩ by kernel_rfl) pn cn
def m34_b0 (a : (List V)) (x : V) (i : Nat) (s : (List V)) : (List V) :=
 (s ++ [(V.clean x)])
def m34 (a : (List V)) : (List V) :=
 (lp2 (m34_b0 a) a 0 ([]))
theorem m34_loop (a : List V) : ∀ (l : List V) (i : Nat) (s : List V), lp2 (m34_b0 a) l i s = s ++ V.cleans l
 | [], i, s => by simp [lp2, V.cleans]
 | x :: r, i, s => by simp only [lp2, m34_b0, m34_loop a r, V.cleans]; simp
theorem vcleans_eq (a : List V) : V.cleans a = m34 a := by
 unfold m34
 rw [m34_loop]
 simp
theorem f34_ok (a : (List V)) (ih : ∀ x ∈ a, CallOk TP 33 [V.m x] [] (.ret (V.m (V.clean x))) []) : CallOk TP 34 [(tL (V.rows a))] [] (.ret (tL (V.rows (V.cleans a)))) [] := by
 rw [vcleans_eq a]
 refine CallOk.short fun hsh => ?_
 rw [show m34 a = (lp2 (m34_b0 a) a 0 ([])) by simp only [m34]]
 have hlen : a.length ≤ 274877906944 := (V.len hsh.1)
 have hl1 : W TP (bodyAt Tryz.f34 [1, 1, 0, 1, 0]) ⟨20, [(0, (tL (V.rows a))), (3, (.own 5018 5 [])), (4, (tI 0))], [(5018, .op 5 [])]⟩ (One (.exit 0) ((fun (i : Nat) (s : (List V)) => (⟨20, [(3, (.own 5018 5 (V.rows s)))], [(5018, .op 5 (V.rows s))]⟩ : St)) a.length (lp2 (m34_b0 a) a 0 ([])))) := by
  refine lp2_W (e := (.exit 0)) (c := bodyAt Tryz.f34 [1, 1, 0, 1, 0, 0]) a (fun (i : Nat) (s : (List V)) => (⟨20, [(0, (tL (V.rows a))), (3, (.own 5018 5 (V.rows s))), (4, (tI ((i : Nat) : Int)))], [(5018, .op 5 (V.rows s))]⟩ : St)) (fun (i : Nat) (s : (List V)) => (⟨20, [(3, (.own 5018 5 (V.rows s)))], [(5018, .op 5 (V.rows s))]⟩ : St)) (m34_b0 a) (fun (i : Nat) (s : (List V)) => (s.length ≤ i : Prop)) ([]) (by simp) (by kernel_rfl) (by simp) ?_ ?_
  ·intro s hI
   exact wo (show run TP 99 (bodyAt Tryz.f34 [1, 1, 0, 1, 0, 0]) ⟨20, [(0, (tL (V.rows a))), (3, (.own 5018 5 (V.rows s))), (4, (tI ((a.length : Nat) : Int)))], [(5018, .op 5 (V.rows s))]⟩ [rg [0, 3, 4, 8] [5018], b0 [3] [5018]] = some ⟨(.exit 0), ⟨20, [(3, (.own 5018 5 (V.rows s)))], [(5018, .op 5 (V.rows s))]⟩, [], [], [(decide (((a.length : Nat) : Int) < (((V.rows a).length : Nat) : Int))) = false]⟩ by kernel_rfl) (pc (lt_ff (V.rows_length _)) pn) cn
  ·intro i x s hx hi hI
   have hb : (m34_b0 a) x i s = (s ++ [(V.clean x)]) := by simp only [m34_b0]
   rw [hb]
   have hr := wo (show run TP 99 (bodyAt Tryz.f34 [1, 1, 0, 1, 0, 0]) ⟨20, [(0, (tL (V.rows a))), (3, (.own 5018 5 (V.rows s))), (4, (tI ((i : Nat) : Int)))], [(5018, .op 5 (V.rows s))]⟩ [rg [0, 3, 4, 8] [5018], b1 [0, 3, 4] [5018], .reg [.cellsT (VC x), (rr (VM (V.clean x)))] [.keep [0, 3, 4] [18], .mv 18 5018] [0, 3, 4] [5018], rg [0, 3, 4] [5018]] = some ⟨.normal, ⟨20, [(0, (tL (V.rows a))), (3, (.own 5018 5 ((V.rows s) ++ [(VC (V.clean x))]))), (4, (tI (IntKind.i64.wrap (((i : Nat) : Int) + 1))))], [(5018, .op 5 ((V.rows s) ++ [(VC (V.clean x))]))]⟩, [], _, [(decide (((i : Nat) : Int) < (((V.rows a).length : Nat) : Int))) = true, (0 : Int) ≤ ((i : Nat) : Int), (V.rows a)[(((i : Nat) : Int) : Int).toNat]? = some (VC x), (((V.rows s) : List (List T)).length + ([(VC (V.clean x))] : List (List T)).length) * 64 ≤ 140737488355328, ((V.rows s) : List (List T)).length + ([(VC (V.clean x))] : List (List T)).length ≤ 274877906944, ∀ z, z ∈ ((V.rows s) : List (List T)) → z.length = 5, ∀ z, z ∈ ([(VC (V.clean x))] : List (List T)) → z.length = 5]⟩ by kernel_rfl) (pc (lt_tt hi (V.rows_length _)) (pc (Int.natCast_nonneg _) (pc (V.rows_at hx) (pc (by simp only [V.rows_length, List.length_cons, List.length_nil, Nat.zero_add] at *; omega) (pc (by simp only [V.rows_length, List.length_cons, List.length_nil, Nat.zero_add] at *; omega) (pc (V.rows_z _) (pc (by simp) pn))))))) (cc (ih x (List.mem_of_getElem? hx)) cn)
   rw [wrap_succ hi hlen] at hr
   have e0_0 : V.rows (s ++ [(V.clean x)]) = ((V.rows s) ++ [(VC (V.clean x))]) := V.rows_snoc _ _
   rw [← e0_0] at hr
   exact ⟨hr, (by simp only [List.length_append, List.length_cons, List.length_nil] at *; omega)⟩
 exact co Tryz.func34 (by kernel_rfl) (show runF TP 99 Tryz.f34 [(tL (V.rows a))] [] [] [rg [0] [], rg [0, 3] [], .reg [] [.armT 3 5018 5] [0, 3, 4] [5018], .cut (.exit 0) ⟨20, [(3, (.own 5018 5 (V.rows (lp2 (m34_b0 a) a 0 ([])))))], [(5018, .op 5 (V.rows (lp2 (m34_b0 a) a 0 ([]))))]⟩, rg [2] []] = some ⟨.ret (tL (V.rows (lp2 (m34_b0 a) a 0 ([])))), [], [], [_]⟩ by kernel_rfl) (pc hl1 pn) cn
def m33 (a : V) : V :=
 bif (a.k == (1 : Int)) then
  (m21 a.i)
 else
  bif (a.k == (2 : Int)) then
   (m20 a.f)
  else
   bif (a.k == (3 : Int)) then
    (m19 a.s)
   else
    bif (a.k == (4 : Int)) then
     (V.mk 4 0 (some 0) bE (V.cleans a.l))
    else
     (V.mk 0 0 (some 0) bE [])
theorem vclean_eq (a : V) : V.clean a = m33 a := by
 obtain ⟨k, i, f, s, l⟩ := a
 have e : m46 f = canon f := rfl
 unfold m33
 simp only [V.clean, V.k, V.i, V.f, V.s, V.l, m21, m20, m19, e]
theorem f33_ok (a : V) : CallOk TP 33 [(VM a)] [] (.ret (VM (V.clean a))) [] := by
 refine V.induct (p := fun a => CallOk TP 33 [(VM a)] [] (.ret (VM (V.clean a))) []) ?_ a; intro a ih
 rw [vclean_eq a]
 cases h1 : (a.k == (1 : Int))
 ·cases h2 : (a.k == (2 : Int))
  ·cases h3 : (a.k == (3 : Int))
   ·cases h4 : (a.k == (4 : Int))
    ·rw [show m33 a = (V.mk 0 0 (some 0) bE []) by simp only [m33, h1, h2, h3, h4, cond_true, cond_false]]
     exact co Tryz.func33 (by kernel_rfl) (show runF TP 99 Tryz.f33 [(VM a)] [] [] [rg [1, 2] [1, 2], rg [1, 2, 4] [1, 2], rg [1, 2, 4, 5] [1, 2], b0 [1, 2, 4] [1, 2], rg [1, 2, 4, 10] [1, 2], b0 [1, 2, 4] [1, 2], rg [1, 2, 4, 15] [1, 2], b0 [1, 2, 4] [1, 2], rg [1, 2, 20] [1, 2], b0 [2] [2], rg [2] [2]] = some ⟨.ret (.agg [(tI 0), (tI 0), (tF (some 0)), (tS bE), (tL [])]), [], [], [_, _, _, _]⟩ by kernel_rfl) (pc h1 (pc h2 (pc h3 (pc h4 pn)))) cn
    ·rw [show m33 a = (V.mk 4 0 (some 0) bE (V.cleans a.l)) by simp only [m33, h1, h2, h3, h4, cond_true, cond_false]]
     exact co Tryz.func33 (by kernel_rfl) (show runF TP 99 Tryz.f33 [(VM a)] [] [] [rg [1, 2] [1, 2], rg [1, 2, 4] [1, 2], rg [1, 2, 4, 5] [1, 2], b0 [1, 2, 4] [1, 2], rg [1, 2, 4, 10] [1, 2], b0 [1, 2, 4] [1, 2], rg [1, 2, 4, 15] [1, 2], b0 [1, 2, 4] [1, 2], rg [1, 2, 20] [1, 2], b1 [1, 2] [1, 2], .reg [(rr (tL (V.rows (V.cleans a.l))))] [] [2] [2]] = some ⟨.ret (.agg [(tI 4), (tI 0), (tF (some 0)), (tS bE), (tL (V.rows (V.cleans a.l)))]), [], _, [_, _, _, _]⟩ by kernel_rfl) (pc h1 (pc h2 (pc h3 (pc h4 pn)))) (cc (f34_ok a.l (by first | exact ih | exact fun x _ => f33_ok x)) cn)
   ·rw [show m33 a = (m19 a.s) by simp only [m33, h1, h2, h3, cond_true, cond_false]]
    exact co Tryz.func33 (by kernel_rfl) (show runF TP 99 Tryz.f33 [(VM a)] [] [] [rg [1, 2] [1, 2], rg [1, 2, 4] [1, 2], rg [1, 2, 4, 5] [1, 2], b0 [1, 2, 4] [1, 2], rg [1, 2, 4, 10] [1, 2], b0 [1, 2, 4] [1, 2], rg [1, 2, 4, 15] [1, 2], b1 [1, 2] [1, 2], .reg [(rr (VM (m19 a.s)))] [] [2] [2]] = some ⟨.ret (VM (m19 a.s)), [], _, [_, _, _]⟩ by kernel_rfl) (pc h1 (pc h2 (pc h3 pn))) (cc (f19_ok a.s) cn)
  ·rw [show m33 a = (m20 a.f) by simp only [m33, h1, h2, cond_true, cond_false]]
   exact co Tryz.func33 (by kernel_rfl) (show runF TP 99 Tryz.f33 [(VM a)] [] [] [rg [1, 2] [1, 2], rg [1, 2, 4] [1, 2], rg [1, 2, 4, 5] [1, 2], b0 [1, 2, 4] [1, 2], rg [1, 2, 4, 10] [1, 2], b1 [1, 2] [1, 2], .reg [(rr (VM (m20 a.f)))] [] [2] [2]] = some ⟨.ret (VM (m20 a.f)), [], _, [_, _]⟩ by kernel_rfl) (pc h1 (pc h2 pn)) (cc (f20_ok a.f) cn)
 ·rw [show m33 a = (m21 a.i) by simp only [m33, h1, cond_true, cond_false]]
  exact co Tryz.func33 (by kernel_rfl) (show runF TP 99 Tryz.f33 [(VM a)] [] [] [rg [1, 2] [1, 2], rg [1, 2, 4] [1, 2], rg [1, 2, 4, 5] [1, 2], b1 [1, 2] [1, 2], .reg [(rr (VM (m21 a.i)))] [] [2] [2]] = some ⟨.ret (VM (m21 a.i)), [], _, [_]⟩ by kernel_rfl) (pc h1 pn) (cc (f21_ok a.i) cn)
def m53 (a : (Option Nat)) : (Option Nat) :=
 bif (fo a a != some .eq) then
  (m80 9221120237041090561)
 else
  a
theorem f53_ok (a : (Option Nat)) : CallOk TP 53 [(tF a)] [] (.ret (tF (m53 a))) [] := by
 cases h1 : (fo a a != some .eq)
 ·rw [show m53 a = a by simp only [m53, h1, cond_true, cond_false]]
  exact co Tryz.func53 (by kernel_rfl) (show runF TP 99 Tryz.f53 [(tF a)] [] [] [rg [0] [], rg [0, 5] [], b0 [0] [], rg [2] []] = some ⟨.ret (tF a), [], [], [_]⟩ by kernel_rfl) (pc h1 pn) cn
 ·rw [show m53 a = (m80 9221120237041090561) by simp only [m53, h1, cond_true, cond_false]]
  exact co Tryz.func53 (by kernel_rfl) (show runF TP 99 Tryz.f53 [(tF a)] [] [] [rg [0] [], rg [0, 5] [], b1 [] [], .reg [(rr (tF (m80 9221120237041090561)))] [] [2] []] = some ⟨.ret (tF (m80 9221120237041090561)), [], _, [_]⟩ by kernel_rfl) (pc h1 pn) (cc (f80_ok 9221120237041090561) cn)
def m26_b0 (a : V) (x : V) (i : Nat) (s : (List V)) : (List V) :=
 (s ++ [(V.clean x)])
def m26 (a : V) : V :=
 bif (a.k == (1 : Int)) then
  (V.mk 1 a.i (some 0) bE [])
 else
  bif (a.k == (2 : Int)) then
   (V.mk 2 0 (m53 a.f) bE [])
  else
   bif (a.k == (3 : Int)) then
    (V.mk 3 0 (some 0) a.s [])
   else
    bif (a.k == (4 : Int)) then
     (V.mk 4 0 (some 0) bE (lp2 (m26_b0 a) a.l 0 ([])))
    else
     (V.mk 0 0 (some 0) bE [])
theorem m26_loop (a : V) : ∀ (l : List V) (i : Nat) (s : List V), lp2 (m26_b0 a) l i s = s ++ V.cleans l
 | [], i, s => by simp [lp2, V.cleans]
 | x :: r, i, s => by simp only [lp2, m26_b0, m26_loop a r, V.cleans]; simp
theorem vclean_eq26 (a : V) : V.clean a = m26 a := by
 obtain ⟨k, i, f, s, l⟩ := a
 have e : m53 f = canon f := rfl
 unfold m26
 simp only [V.clean, V.k, V.i, V.f, V.s, V.l, m26_loop, e, List.nil_append]
theorem f26_ok (a : V) : CallOk TP 26 [(VM a)] [] (.ret (VM (V.clean a))) [] := by
 refine V.induct (p := fun a => CallOk TP 26 [(VM a)] [] (.ret (VM (V.clean a))) []) ?_ a; intro a ih
 rw [vclean_eq26 a]
 refine CallOk.short fun hsh => ?_
 cases h1 : (a.k == (1 : Int))
 ·cases h2 : (a.k == (2 : Int))
  ·cases h3 : (a.k == (3 : Int))
   ·cases h4 : (a.k == (4 : Int))
    ·rw [show m26 a = (V.mk 0 0 (some 0) bE []) by simp only [m26, h1, h2, h3, h4, cond_true, cond_false]]
     exact co Tryz.func26 (by kernel_rfl) (show runF TP 99 Tryz.f26 [(VM a)] [] [] [rg [1, 2] [1, 2], rg [1, 2, 7] [1, 2], rg [1, 2, 7, 8] [1, 2], b0 [1, 2, 7] [1, 2], rg [1, 2, 7, 13] [1, 2], b0 [1, 2, 7] [1, 2], rg [1, 2, 7, 19] [1, 2], b0 [1, 2, 7] [1, 2], rg [1, 2, 24] [1, 2], b0 [2] [2], rg [2] [2]] = some ⟨.ret (.agg [(tI 0), (tI 0), (tF (some 0)), (tS bE), (tL [])]), [], [], [_, _, _, _]⟩ by kernel_rfl) (pc h1 (pc h2 (pc h3 (pc h4 pn)))) cn
    ·rw [show m26 a = (V.mk 4 0 (some 0) bE (lp2 (m26_b0 a) a.l 0 ([]))) by simp only [m26, h1, h2, h3, h4, cond_true, cond_false]]
     have hlen : a.l.length ≤ 274877906944 := (V.short_of hsh.1).len
     have hl1 : W TP (bodyAt Tryz.f26 [1, 0, 1, 0, 1, 1, 1, 1, 1, 1, 1, 0, 1, 0, 1, 0]) ⟨44, [(2, (.ptr 2 0)), (3, (.ptr 3 0)), (28, (tL (V.rows a.l))), (29, (tI (((V.rows a.l).length : Nat) : Int))), (30, (tI 0))], [(2, .os [(tI 0), (tI 0), (tF (some 0)), (tS bE), (.tight [])]), (3, .os [(tI 4), (tI 0), (tF (some 0)), (tS bE), (.own 5039 5 [])]), (5039, .op 5 [])]⟩ (One (.exit 1) ((fun (i : Nat) (s : (List V)) => (⟨44, [(2, (.ptr 2 0)), (3, (.ptr 3 0))], [(2, .os [(tI 0), (tI 0), (tF (some 0)), (tS bE), (.tight [])]), (3, .os [(tI 4), (tI 0), (tF (some 0)), (tS bE), (.own 5039 5 (V.rows s))]), (5039, .op 5 (V.rows s))]⟩ : St)) a.l.length (lp2 (m26_b0 a) a.l 0 ([])))) := by
      refine lp2_W (e := (.exit 1)) (c := bodyAt Tryz.f26 [1, 0, 1, 0, 1, 1, 1, 1, 1, 1, 1, 0, 1, 0, 1, 0, 0]) a.l (fun (i : Nat) (s : (List V)) => (⟨44, [(2, (.ptr 2 0)), (3, (.ptr 3 0)), (28, (tL (V.rows a.l))), (29, (tI (((V.rows a.l).length : Nat) : Int))), (30, (tI ((i : Nat) : Int)))], [(2, .os [(tI 0), (tI 0), (tF (some 0)), (tS bE), (.tight [])]), (3, .os [(tI 4), (tI 0), (tF (some 0)), (tS bE), (.own 5039 5 (V.rows s))]), (5039, .op 5 (V.rows s))]⟩ : St)) (fun (i : Nat) (s : (List V)) => (⟨44, [(2, (.ptr 2 0)), (3, (.ptr 3 0))], [(2, .os [(tI 0), (tI 0), (tF (some 0)), (tS bE), (.tight [])]), (3, .os [(tI 4), (tI 0), (tF (some 0)), (tS bE), (.own 5039 5 (V.rows s))]), (5039, .op 5 (V.rows s))]⟩ : St)) (m26_b0 a) (fun (i : Nat) (s : (List V)) => (s.length ≤ i : Prop)) ([]) (by simp) (by kernel_rfl) (by simp) ?_ ?_
      ·intro s hI
       exact wo (show run TP 99 (bodyAt Tryz.f26 [1, 0, 1, 0, 1, 1, 1, 1, 1, 1, 1, 0, 1, 0, 1, 0, 0]) ⟨44, [(2, (.ptr 2 0)), (3, (.ptr 3 0)), (28, (tL (V.rows a.l))), (29, (tI (((V.rows a.l).length : Nat) : Int))), (30, (tI ((a.l.length : Nat) : Int)))], [(2, .os [(tI 0), (tI 0), (tF (some 0)), (tS bE), (.tight [])]), (3, .os [(tI 4), (tI 0), (tF (some 0)), (tS bE), (.own 5039 5 (V.rows s))]), (5039, .op 5 (V.rows s))]⟩ [rg [2, 3, 28, 29, 30, 31] [2, 3, 5039], b0 [2, 3] [2, 3, 5039]] = some ⟨(.exit 1), ⟨44, [(2, (.ptr 2 0)), (3, (.ptr 3 0))], [(2, .os [(tI 0), (tI 0), (tF (some 0)), (tS bE), (.tight [])]), (3, .os [(tI 4), (tI 0), (tF (some 0)), (tS bE), (.own 5039 5 (V.rows s))]), (5039, .op 5 (V.rows s))]⟩, [], [], [(decide (((a.l.length : Nat) : Int) < (((V.rows a.l).length : Nat) : Int))) = false]⟩ by kernel_rfl) (pc (lt_ff (V.rows_length _)) pn) cn
      ·intro i x s hx hi hI
       have hb : (m26_b0 a) x i s = (s ++ [(V.clean x)]) := by simp only [m26_b0]
       rw [hb]
       have hr := wo (show run TP 99 (bodyAt Tryz.f26 [1, 0, 1, 0, 1, 1, 1, 1, 1, 1, 1, 0, 1, 0, 1, 0, 0]) ⟨44, [(2, (.ptr 2 0)), (3, (.ptr 3 0)), (28, (tL (V.rows a.l))), (29, (tI (((V.rows a.l).length : Nat) : Int))), (30, (tI ((i : Nat) : Int)))], [(2, .os [(tI 0), (tI 0), (tF (some 0)), (tS bE), (.tight [])]), (3, .os [(tI 4), (tI 0), (tF (some 0)), (tS bE), (.own 5039 5 (V.rows s))]), (5039, .op 5 (V.rows s))]⟩ [rg [2, 3, 28, 29, 30, 31] [2, 3, 5039], b1 [2, 3, 28, 29, 30] [2, 3, 5039], .reg [.cellsT (VC x)] [] [2, 3, 5, 28, 29, 30] [2, 3, 5, 5039], .drw [[], [], [], [(rr (VM (V.clean x)))], [], [], [], []] [.keep [2, 3, 28, 29, 30] [2, 3, 39], .mv 39 5039] [2, 3, 28, 29, 30] [2, 3, 5039], rg [2, 3, 28, 29, 30] [2, 3, 5039]] = some ⟨.normal, ⟨44, [(2, (.ptr 2 0)), (3, (.ptr 3 0)), (28, (tL (V.rows a.l))), (29, (tI (((V.rows a.l).length : Nat) : Int))), (30, (tI (IntKind.i64.wrap (((i : Nat) : Int) + 1))))], [(2, .os [(tI 0), (tI 0), (tF (some 0)), (tS bE), (.tight [])]), (3, .os [(tI 4), (tI 0), (tF (some 0)), (tS bE), (.own 5039 5 ((V.rows s) ++ [(VC (V.clean x))]))]), (5039, .op 5 ((V.rows s) ++ [(VC (V.clean x))]))]⟩, [], _, [(decide (((i : Nat) : Int) < (((V.rows a.l).length : Nat) : Int))) = true, (0 : Int) ≤ ((i : Nat) : Int), (V.rows a.l)[(((i : Nat) : Int) : Int).toNat]? = some (VC x), (((V.rows s) : List (List T)).length + ([(VC (V.clean x))] : List (List T)).length) * 64 ≤ 140737488355328, ((V.rows s) : List (List T)).length + ([(VC (V.clean x))] : List (List T)).length ≤ 274877906944, ∀ z, z ∈ ((V.rows s) : List (List T)) → z.length = 5, ∀ z, z ∈ ([(VC (V.clean x))] : List (List T)) → z.length = 5]⟩ by kernel_rfl) (pc (lt_tt hi (V.rows_length _)) (pc (Int.natCast_nonneg _) (pc (V.rows_at hx) (pc (by simp only [V.rows_length, List.length_cons, List.length_nil, Nat.zero_add] at *; omega) (pc (by simp only [V.rows_length, List.length_cons, List.length_nil, Nat.zero_add] at *; omega) (pc (V.rows_z _) (pc (by simp) pn))))))) (cc (ih x (List.mem_of_getElem? hx)) cn)
       rw [wrap_succ hi hlen] at hr
       have e0_0 : V.rows (s ++ [(V.clean x)]) = ((V.rows s) ++ [(VC (V.clean x))]) := V.rows_snoc _ _
       rw [← e0_0] at hr
       exact ⟨hr, (by simp only [List.length_append, List.length_cons, List.length_nil] at *; omega)⟩
     exact co Tryz.func26 (by kernel_rfl) (show runF TP 99 Tryz.f26 [(VM a)] [] [] [rg [1, 2] [1, 2], rg [1, 2, 7] [1, 2], rg [1, 2, 7, 8] [1, 2], b0 [1, 2, 7] [1, 2], rg [1, 2, 7, 13] [1, 2], b0 [1, 2, 7] [1, 2], rg [1, 2, 7, 19] [1, 2], b0 [1, 2, 7] [1, 2], rg [1, 2, 24] [1, 2], b1 [1, 2] [1, 2], rg [1, 2, 3] [1, 2, 3], .reg [] [.armB 3 4 5039 5] [2, 3, 28, 29, 30] [2, 3, 5039], .cut (.exit 1) ⟨44, [(2, (.ptr 2 0)), (3, (.ptr 3 0))], [(2, .os [(tI 0), (tI 0), (tF (some 0)), (tS bE), (.tight [])]), (3, .os [(tI 4), (tI 0), (tF (some 0)), (tS bE), (.own 5039 5 (V.rows (lp2 (m26_b0 a) a.l 0 ([]))))]), (5039, .op 5 (V.rows (lp2 (m26_b0 a) a.l 0 ([]))))]⟩, rg [2] [2]] = some ⟨.ret (.agg [(tI 4), (tI 0), (tF (some 0)), (tS bE), (tL (V.rows (lp2 (m26_b0 a) a.l 0 ([]))))]), [], [], [_, _, _, _, _]⟩ by kernel_rfl) (pc h1 (pc h2 (pc h3 (pc h4 (pc hl1 pn))))) cn
   ·rw [show m26 a = (V.mk 3 0 (some 0) a.s []) by simp only [m26, h1, h2, h3, cond_true, cond_false]]
    exact co Tryz.func26 (by kernel_rfl) (show runF TP 99 Tryz.f26 [(VM a)] [] [] [rg [1, 2] [1, 2], rg [1, 2, 7] [1, 2], rg [1, 2, 7, 8] [1, 2], b0 [1, 2, 7] [1, 2], rg [1, 2, 7, 13] [1, 2], b0 [1, 2, 7] [1, 2], rg [1, 2, 7, 19] [1, 2], b1 [1, 2] [1, 2], rg [2] [2]] = some ⟨.ret (.agg [(tI 3), (tI 0), (tF (some 0)), (tS a.s), (tL [])]), [], [], [_, _, _]⟩ by kernel_rfl) (pc h1 (pc h2 (pc h3 pn))) cn
  ·rw [show m26 a = (V.mk 2 0 (m53 a.f) bE []) by simp only [m26, h1, h2, cond_true, cond_false]]
   exact co Tryz.func26 (by kernel_rfl) (show runF TP 99 Tryz.f26 [(VM a)] [] [] [rg [1, 2] [1, 2], rg [1, 2, 7] [1, 2], rg [1, 2, 7, 8] [1, 2], b0 [1, 2, 7] [1, 2], rg [1, 2, 7, 13] [1, 2], b1 [1, 2] [1, 2], .reg [(rr (tF (m53 a.f)))] [] [2] [2]] = some ⟨.ret (.agg [(tI 2), (tI 0), (tF (m53 a.f)), (tS bE), (tL [])]), [], _, [_, _]⟩ by kernel_rfl) (pc h1 (pc h2 pn)) (cc (f53_ok a.f) cn)
 ·rw [show m26 a = (V.mk 1 a.i (some 0) bE []) by simp only [m26, h1, cond_true, cond_false]]
  exact co Tryz.func26 (by kernel_rfl) (show runF TP 99 Tryz.f26 [(VM a)] [] [] [rg [1, 2] [1, 2], rg [1, 2, 7] [1, 2], rg [1, 2, 7, 8] [1, 2], b1 [1, 2] [1, 2], rg [2] [2]] = some ⟨.ret (.agg [(tI 1), (tI a.i), (tF (some 0)), (tS bE), (tL [])]), [], [], [_]⟩ by kernel_rfl) (pc h1 pn) cn
def m42_b0 (a : V) (b : Int) (x : V) (i : Nat) (s : Unit) : Rd (Bool) (Unit) :=
 bif (V.deep x (IntKind.i64.wrap (b - 1))) then
  .ret true
 else
  .next ()
def m42 (a : V) (b : Int) : Bool :=
 bif (a.k != (4 : Int)) then
  false
 else
  bif (b == (0 : Int)) then
   true
  else
   match (lp (m42_b0 a b) a.l 0 ()) with
   | .inl q3 => (
    q3)
   | .inr q3 => (
    false)
theorem m42_loop (a : V) (b : Int) : ∀ (l : List V) (i : Nat), (match lp (m42_b0 a b) l i () with | .inl q => q | .inr _ => false) = V.deeps l (IntKind.i64.wrap (b - 1))
 | [], i => rfl
 | x :: r, i => by
  simp only [lp, m42_b0, V.deeps]
  cases h : x.deep (IntKind.i64.wrap (b - 1))
  ·simpa [h] using m42_loop a b r (i + 1)
  ·simp
theorem vdeep_eq (a : V) (b : Int) : V.deep a b = m42 a b := by
 unfold m42
 rw [m42_loop]
 obtain ⟨k, i, f, s, l⟩ := a
 rfl
theorem f42_ok (a : V) (b : Int) : CallOk TP 42 [(VM a), (tI b)] [] (.ret (tB (V.deep a b))) [] := by
 revert b; refine V.induct (p := fun a => ∀ b, CallOk TP 42 [(VM a), (tI b)] [] (.ret (tB (V.deep a b))) []) ?_ a; intro a ih b
 rw [vdeep_eq a b]
 refine CallOk.short fun hsh => ?_
 cases h1 : (a.k != (4 : Int))
 ·cases h2 : (b == (0 : Int))
  ·have hlen : a.l.length ≤ 274877906944 := (V.short_of hsh.1).len
   have hl1 : W TP (bodyAt Tryz.f42 [1, 1, 1, 0, 1, 0]) ⟨26, [(1, (tI b)), (2, (.ptr 2 0)), (5, (tI 0))], [(2, .os [(tI a.k), (tI a.i), (tF a.f), (tS a.s), (tL (V.rows a.l))])]⟩ (lpPost (fun (i : Nat) (s : Unit) => (⟨26, [], []⟩ : St)) (fun (r : Bool) => (⟨26, [(4, (tB r))], []⟩ : St)) (.exit 0) (lp (m42_b0 a b) a.l 0 ())) := by
    refine lp1_W (e := (.exit 0)) (c := bodyAt Tryz.f42 [1, 1, 1, 0, 1, 0, 0]) a.l (fun (i : Nat) (s : Unit) => (⟨26, [(1, (tI b)), (2, (.ptr 2 0)), (5, (tI ((i : Nat) : Int)))], [(2, .os [(tI a.k), (tI a.i), (tF a.f), (tS a.s), (tL (V.rows a.l))])]⟩ : St)) (fun (i : Nat) (s : Unit) => (⟨26, [], []⟩ : St)) (fun (r : Bool) => (⟨26, [(4, (tB r))], []⟩ : St)) (m42_b0 a b) (fun (i : Nat) (s : Unit) => (True : Prop)) () trivial (by kernel_rfl) (by simp) ?_ ?_
    ·intro s hI
     exact wo (show run TP 99 (bodyAt Tryz.f42 [1, 1, 1, 0, 1, 0, 0]) ⟨26, [(1, (tI b)), (2, (.ptr 2 0)), (5, (tI ((a.l.length : Nat) : Int)))], [(2, .os [(tI a.k), (tI a.i), (tF a.f), (tS a.s), (tL (V.rows a.l))])]⟩ [rg [1, 2, 5, 15] [2], b0 [] []] = some ⟨(.exit 0), ⟨26, [], []⟩, [], [], [(decide (((a.l.length : Nat) : Int) < (((V.rows a.l).length : Nat) : Int))) = false]⟩ by kernel_rfl) (pc (lt_ff (V.rows_length _)) pn) cn
    ·intro i x s hx hi hI
     cases g4 : (V.deep x (IntKind.i64.wrap (b - 1)))
     ·have hb : (m42_b0 a b) x i s = .next () := by simp only [m42_b0, g4, cond_true, cond_false]
      rw [hb]
      have hr := wo (show run TP 99 (bodyAt Tryz.f42 [1, 1, 1, 0, 1, 0, 0]) ⟨26, [(1, (tI b)), (2, (.ptr 2 0)), (5, (tI ((i : Nat) : Int)))], [(2, .os [(tI a.k), (tI a.i), (tF a.f), (tS a.s), (tL (V.rows a.l))])]⟩ [rg [1, 2, 5, 15] [2], b1 [1, 2, 5] [2], .reg [.cellsT (VC x), (rr (tB (V.deep x (IntKind.i64.wrap (b - 1)))))] [] [1, 2, 5, 25] [2], b0 [1, 2, 5] [2], rg [1, 2, 5] [2]] = some ⟨.normal, ⟨26, [(1, (tI b)), (2, (.ptr 2 0)), (5, (tI (IntKind.i64.wrap (((i : Nat) : Int) + 1))))], [(2, .os [(tI a.k), (tI a.i), (tF a.f), (tS a.s), (tL (V.rows a.l))])]⟩, [], _, [(decide (((i : Nat) : Int) < (((V.rows a.l).length : Nat) : Int))) = true, (0 : Int) ≤ ((i : Nat) : Int), _, _]⟩ by kernel_rfl) (pc (lt_tt hi (V.rows_length _)) (pc (Int.natCast_nonneg _) (pc (V.rows_at hx) (pc g4 pn)))) (cc (ih x (List.mem_of_getElem? hx) (IntKind.i64.wrap (b - 1))) cn)
      rw [wrap_succ hi hlen] at hr
      exact ⟨hr, fun _ _ => trivial⟩
     ·have hb : (m42_b0 a b) x i s = .ret true := by simp only [m42_b0, g4, cond_true, cond_false]
      rw [hb]
      have hr := wo (show run TP 99 (bodyAt Tryz.f42 [1, 1, 1, 0, 1, 0, 0]) ⟨26, [(1, (tI b)), (2, (.ptr 2 0)), (5, (tI ((i : Nat) : Int)))], [(2, .os [(tI a.k), (tI a.i), (tF a.f), (tS a.s), (tL (V.rows a.l))])]⟩ [rg [1, 2, 5, 15] [2], b1 [1, 2, 5] [2], .reg [.cellsT (VC x), (rr (tB (V.deep x (IntKind.i64.wrap (b - 1)))))] [] [1, 2, 5, 25] [2], b1 [] [], rg [4] []] = some ⟨.ret, ⟨26, [(4, (tB true))], []⟩, [], _, [(decide (((i : Nat) : Int) < (((V.rows a.l).length : Nat) : Int))) = true, (0 : Int) ≤ ((i : Nat) : Int), _, _]⟩ by kernel_rfl) (pc (lt_tt hi (V.rows_length _)) (pc (Int.natCast_nonneg _) (pc (V.rows_at hx) (pc g4 pn)))) (cc (ih x (List.mem_of_getElem? hx) (IntKind.i64.wrap (b - 1))) cn)
      exact ⟨hr, fun _ _ => trivial⟩
   cases h3 : (lp (m42_b0 a b) a.l 0 ()) with
   | inl q3 => 
    rw [show m42 a b = q3 by simp only [m42, h1, h2, h3, cond_true, cond_false]]
    rw [h3] at hl1
    exact co Tryz.func42 (by kernel_rfl) (show runF TP 99 Tryz.f42 [(VM a), (tI b)] [] [] [rg [1, 2] [2], rg [1, 2, 8] [2], b0 [1, 2] [2], rg [1, 2, 10] [2], b0 [1, 2] [2], rg [1, 2, 5] [2], .cut .ret ⟨26, [(4, (tB q3))], []⟩] = some ⟨.ret (tB q3), [], [], [_, _, _]⟩ by kernel_rfl) (pc h1 (pc h2 (pc hl1 pn))) cn
   | inr q3 => 
    rw [show m42 a b = false by simp only [m42, h1, h2, h3, cond_true, cond_false]]
    rw [h3] at hl1
    exact co Tryz.func42 (by kernel_rfl) (show runF TP 99 Tryz.f42 [(VM a), (tI b)] [] [] [rg [1, 2] [2], rg [1, 2, 8] [2], b0 [1, 2] [2], rg [1, 2, 10] [2], b0 [1, 2] [2], rg [1, 2, 5] [2], .cut (.exit 0) ⟨26, [], []⟩, rg [4] []] = some ⟨.ret (tB false), [], [], [_, _, _]⟩ by kernel_rfl) (pc h1 (pc h2 (pc hl1 pn))) cn
  ·rw [show m42 a b = true by simp only [m42, h1, h2, cond_true, cond_false]]
   exact co Tryz.func42 (by kernel_rfl) (show runF TP 99 Tryz.f42 [(VM a), (tI b)] [] [] [rg [1, 2] [2], rg [1, 2, 8] [2], b0 [1, 2] [2], rg [1, 2, 10] [2], b1 [] [], rg [4] []] = some ⟨.ret (tB true), [], [], [_, _]⟩ by kernel_rfl) (pc h1 (pc h2 pn)) cn
 ·rw [show m42 a b = false by simp only [m42, h1, cond_true, cond_false]]
  exact co Tryz.func42 (by kernel_rfl) (show runF TP 99 Tryz.f42 [(VM a), (tI b)] [] [] [rg [1, 2] [2], rg [1, 2, 8] [2], b1 [] [], rg [4] []] = some ⟨.ret (tB false), [], [], [_]⟩ by kernel_rfl) (pc h1 pn) cn
def m78_b0 (a : V) (x : V) (i : Nat) (s : Unit) : Rd (Bool) (Unit) :=
 bif (a.k == (4 : Int)) then
  bif (V.kinds x) then
   .next ()
  else
   .ret false
 else
  .out ()
def m78 (a : V) : Bool :=
 bif (decide (a.k < (0 : Int))) then
  false
 else
  bif (decide (a.k > (4 : Int))) then
   false
  else
   match (lp (m78_b0 a) a.l 0 ()) with
   | .inl q3 => (
    q3)
   | .inr q3 => (
    true)
theorem m78_loop (a : V) : ∀ (l : List V) (i : Nat), (match lp (m78_b0 a) l i () with | .inl q => q | .inr _ => true) = bif a.k == 4 then V.kindss l else true
 | [], i => by simp [lp, V.kindss]
 | x :: r, i => by
  have ih := m78_loop a r (i + 1)
  simp only [lp, m78_b0, V.kindss]
  cases h : a.k == 4
  ·simp
  ·cases h2 : x.kinds
   ·simp
   ·rw [h] at ih
    simpa using ih
theorem vkinds_eq (a : V) : V.kinds a = m78 a := by
 unfold m78
 rw [m78_loop]
 obtain ⟨k, i, f, s, l⟩ := a
 rfl
theorem f78_ok (a : V) : CallOk TP 78 [(VM a)] [] (.ret (tB (V.kinds a))) [] := by
 refine V.induct (p := fun a => CallOk TP 78 [(VM a)] [] (.ret (tB (V.kinds a))) []) ?_ a; intro a ih
 rw [vkinds_eq a]
 refine CallOk.short fun hsh => ?_
 cases h1 : (decide (a.k < (0 : Int)))
 ·cases h2 : (decide (a.k > (4 : Int)))
  ·have hlen : a.l.length ≤ 274877906944 := (V.short_of hsh.1).len
   have hl1 : W TP (bodyAt Tryz.f78 [1, 1, 0, 1, 0]) ⟨31, [(1, (.ptr 1 0)), (3, (tI 0))], [(1, .os [(tI a.k), (tI a.i), (tF a.f), (tS a.s), (tL (V.rows a.l))])]⟩ (lpPost (fun (i : Nat) (s : Unit) => (⟨31, [], []⟩ : St)) (fun (r : Bool) => (⟨31, [(2, (tB r))], []⟩ : St)) (.exit 0) (lp (m78_b0 a) a.l 0 ())) := by
    refine lp1_W (e := (.exit 0)) (c := bodyAt Tryz.f78 [1, 1, 0, 1, 0, 0]) a.l (fun (i : Nat) (s : Unit) => (⟨31, [(1, (.ptr 1 0)), (3, (tI ((i : Nat) : Int)))], [(1, .os [(tI a.k), (tI a.i), (tF a.f), (tS a.s), (tL (V.rows a.l))])]⟩ : St)) (fun (i : Nat) (s : Unit) => (⟨31, [], []⟩ : St)) (fun (r : Bool) => (⟨31, [(2, (tB r))], []⟩ : St)) (m78_b0 a) (fun (i : Nat) (s : Unit) => (True : Prop)) () trivial (by kernel_rfl) (by simp) ?_ ?_
    ·intro s hI
     exact wo (show run TP 99 (bodyAt Tryz.f78 [1, 1, 0, 1, 0, 0]) ⟨31, [(1, (.ptr 1 0)), (3, (tI ((a.l.length : Nat) : Int)))], [(1, .os [(tI a.k), (tI a.i), (tF a.f), (tS a.s), (tL (V.rows a.l))])]⟩ [.reg [.bit false] [] [1, 3, 21] [1], b0 [] []] = some ⟨(.exit 0), ⟨31, [], []⟩, [], [], [(decide (((a.l.length : Nat) : Int) < (((V.rows a.l).length : Nat) : Int))) = false, false = false]⟩ by kernel_rfl) (pc (lt_ff (V.rows_length _)) (pc rfl pn)) cn
    ·intro i x s hx hi hI
     cases g4 : (a.k == (4 : Int))
     ·have hb : (m78_b0 a) x i s = .out () := by simp only [m78_b0, g4, cond_true, cond_false]
      rw [hb]
      have hr := wo (show run TP 99 (bodyAt Tryz.f78 [1, 1, 0, 1, 0, 0]) ⟨31, [(1, (.ptr 1 0)), (3, (tI ((i : Nat) : Int)))], [(1, .os [(tI a.k), (tI a.i), (tF a.f), (tS a.s), (tL (V.rows a.l))])]⟩ [.reg [.bit true] [] [1, 3, 21] [1], b0 [] []] = some ⟨(.exit 0), ⟨31, [], []⟩, [], [], [(decide (((i : Nat) : Int) < (((V.rows a.l).length : Nat) : Int))) = true, _]⟩ by kernel_rfl) (pc (lt_tt hi (V.rows_length _)) (pc g4 pn)) cn
      exact ⟨hr, fun _ _ => trivial⟩
     ·cases g5 : (V.kinds x)
      ·have hb : (m78_b0 a) x i s = .ret false := by simp only [m78_b0, g4, g5, cond_true, cond_false]
       rw [hb]
       have hr := wo (show run TP 99 (bodyAt Tryz.f78 [1, 1, 0, 1, 0, 0]) ⟨31, [(1, (.ptr 1 0)), (3, (tI ((i : Nat) : Int)))], [(1, .os [(tI a.k), (tI a.i), (tF a.f), (tS a.s), (tL (V.rows a.l))])]⟩ [.reg [.bit true] [] [1, 3, 21] [1], b1 [1, 3] [1], .reg [.cellsT (VC x), (rr (tB (V.kinds x)))] [] [1, 3, 30] [1], b1 [] [], rg [2] []] = some ⟨.ret, ⟨31, [(2, (tB false))], []⟩, [], _, [(decide (((i : Nat) : Int) < (((V.rows a.l).length : Nat) : Int))) = true, _, (0 : Int) ≤ ((i : Nat) : Int), _, _]⟩ by kernel_rfl) (pc (lt_tt hi (V.rows_length _)) (pc g4 (pc (Int.natCast_nonneg _) (pc (V.rows_at hx) (pc (not_tt g5) pn))))) (cc (ih x (List.mem_of_getElem? hx)) cn)
       exact ⟨hr, fun _ _ => trivial⟩
      ·have hb : (m78_b0 a) x i s = .next () := by simp only [m78_b0, g4, g5, cond_true, cond_false]
       rw [hb]
       have hr := wo (show run TP 99 (bodyAt Tryz.f78 [1, 1, 0, 1, 0, 0]) ⟨31, [(1, (.ptr 1 0)), (3, (tI ((i : Nat) : Int)))], [(1, .os [(tI a.k), (tI a.i), (tF a.f), (tS a.s), (tL (V.rows a.l))])]⟩ [.reg [.bit true] [] [1, 3, 21] [1], b1 [1, 3] [1], .reg [.cellsT (VC x), (rr (tB (V.kinds x)))] [] [1, 3, 30] [1], b0 [1, 3] [1], rg [1, 3] [1]] = some ⟨.normal, ⟨31, [(1, (.ptr 1 0)), (3, (tI (IntKind.i64.wrap (((i : Nat) : Int) + 1))))], [(1, .os [(tI a.k), (tI a.i), (tF a.f), (tS a.s), (tL (V.rows a.l))])]⟩, [], _, [(decide (((i : Nat) : Int) < (((V.rows a.l).length : Nat) : Int))) = true, _, (0 : Int) ≤ ((i : Nat) : Int), _, _]⟩ by kernel_rfl) (pc (lt_tt hi (V.rows_length _)) (pc g4 (pc (Int.natCast_nonneg _) (pc (V.rows_at hx) (pc (not_ff g5) pn))))) (cc (ih x (List.mem_of_getElem? hx)) cn)
       rw [wrap_succ hi hlen] at hr
       exact ⟨hr, fun _ _ => trivial⟩
   cases h3 : (lp (m78_b0 a) a.l 0 ()) with
   | inl q3 => 
    rw [show m78 a = q3 by simp only [m78, h1, h2, h3, cond_true, cond_false]]
    rw [h3] at hl1
    exact co Tryz.func78 (by kernel_rfl) (show runF TP 99 Tryz.f78 [(VM a)] [] [] [rg [1] [1], .reg [.bit false] [] [1, 11] [1], b0 [1] [1], rg [1, 3] [1], .cut .ret ⟨31, [(2, (tB q3))], []⟩] = some ⟨.ret (tB q3), [], [], [_, _, _]⟩ by kernel_rfl) (pc h1 (pc h2 (pc hl1 pn))) cn
   | inr q3 => 
    rw [show m78 a = true by simp only [m78, h1, h2, h3, cond_true, cond_false]]
    rw [h3] at hl1
    exact co Tryz.func78 (by kernel_rfl) (show runF TP 99 Tryz.f78 [(VM a)] [] [] [rg [1] [1], .reg [.bit false] [] [1, 11] [1], b0 [1] [1], rg [1, 3] [1], .cut (.exit 0) ⟨31, [], []⟩, rg [2] []] = some ⟨.ret (tB true), [], [], [_, _, _]⟩ by kernel_rfl) (pc h1 (pc h2 (pc hl1 pn))) cn
  ·rw [show m78 a = false by simp only [m78, h1, h2, cond_true, cond_false]]
   exact co Tryz.func78 (by kernel_rfl) (show runF TP 99 Tryz.f78 [(VM a)] [] [] [rg [1] [1], .reg [.bit false] [] [1, 11] [1], b1 [] [], rg [2] []] = some ⟨.ret (tB false), [], [], [_, _]⟩ by kernel_rfl) (pc h1 (pc h2 pn)) cn
 ·rw [show m78 a = false by simp only [m78, h1, cond_true, cond_false]]
  exact co Tryz.func78 (by kernel_rfl) (show runF TP 99 Tryz.f78 [(VM a)] [] [] [rg [1] [1], .reg [.bit true] [] [1, 11] [1], b1 [] [], rg [2] []] = some ⟨.ret (tB false), [], [], [_, true = true]⟩ by kernel_rfl) (pc h1 (pc rfl pn)) cn
def m79_b0 (a : V) (b : Int) (x : V) (i : Nat) (s : Unit) : Rd (Bool) (Unit) :=
 bif (V.great x (IntKind.i64.wrap (b + 1))) then
  .ret true
 else
  .next ()
def m79 (a : V) (b : Int) : Bool :=
 bif (a.k == (3 : Int)) then
  (decide ((a.s.size : Int) > (256 : Int)))
 else
  bif (a.k != (4 : Int)) then
   false
  else
   bif (decide (b ≥ (8 : Int))) then
    true
   else
    bif (decide ((((V.rows a.l).length : Nat) : Int) > (64 : Int))) then
     true
    else
     match (lp (m79_b0 a b) a.l 0 ()) with
     | .inl q5 => (
      q5)
     | .inr q5 => (
      false)
theorem m79_loop (a : V) (b : Int) : ∀ (l : List V) (i : Nat), (match lp (m79_b0 a b) l i () with | .inl q => q | .inr _ => false) = V.greats l (IntKind.i64.wrap (b + 1))
 | [], i => rfl
 | x :: r, i => by
  simp only [lp, m79_b0, V.greats]
  cases h : x.great (IntKind.i64.wrap (b + 1))
  ·simpa [h] using m79_loop a b r (i + 1)
  ·simp
theorem vgreat_eq (a : V) (b : Int) : V.great a b = m79 a b := by
 unfold m79
 rw [m79_loop]
 obtain ⟨k, i, f, s, l⟩ := a
 simp only [V.great, V.k, V.s, V.l, V.rows_length]
 rfl
theorem f79_ok (a : V) (b : Int) : CallOk TP 79 [(VM a), (tI b)] [] (.ret (tB (V.great a b))) [] := by
 revert b; refine V.induct (p := fun a => ∀ b, CallOk TP 79 [(VM a), (tI b)] [] (.ret (tB (V.great a b))) []) ?_ a; intro a ih b
 rw [vgreat_eq a b]
 refine CallOk.short fun hsh => ?_
 cases h1 : (a.k == (3 : Int))
 ·cases h2 : (a.k != (4 : Int))
  ·cases h3 : (decide (b ≥ (8 : Int)))
   ·cases h4 : (decide ((((V.rows a.l).length : Nat) : Int) > (64 : Int)))
    ·have hlen : a.l.length ≤ 274877906944 := (V.short_of hsh.1).len
     have hl1 : W TP (bodyAt Tryz.f79 [1, 1, 1, 1, 0, 1, 0]) ⟨39, [(1, (tI b)), (2, (.ptr 2 0)), (5, (tI 0))], [(2, .os [(tI a.k), (tI a.i), (tF a.f), (tS a.s), (tL (V.rows a.l))])]⟩ (lpPost (fun (i : Nat) (s : Unit) => (⟨39, [], []⟩ : St)) (fun (r : Bool) => (⟨39, [(4, (tB r))], []⟩ : St)) (.exit 0) (lp (m79_b0 a b) a.l 0 ())) := by
      refine lp1_W (e := (.exit 0)) (c := bodyAt Tryz.f79 [1, 1, 1, 1, 0, 1, 0, 0]) a.l (fun (i : Nat) (s : Unit) => (⟨39, [(1, (tI b)), (2, (.ptr 2 0)), (5, (tI ((i : Nat) : Int)))], [(2, .os [(tI a.k), (tI a.i), (tF a.f), (tS a.s), (tL (V.rows a.l))])]⟩ : St)) (fun (i : Nat) (s : Unit) => (⟨39, [], []⟩ : St)) (fun (r : Bool) => (⟨39, [(4, (tB r))], []⟩ : St)) (m79_b0 a b) (fun (i : Nat) (s : Unit) => (True : Prop)) () trivial (by kernel_rfl) (by simp) ?_ ?_
      ·intro s hI
       exact wo (show run TP 99 (bodyAt Tryz.f79 [1, 1, 1, 1, 0, 1, 0, 0]) ⟨39, [(1, (tI b)), (2, (.ptr 2 0)), (5, (tI ((a.l.length : Nat) : Int)))], [(2, .os [(tI a.k), (tI a.i), (tF a.f), (tS a.s), (tL (V.rows a.l))])]⟩ [rg [1, 2, 5, 28] [2], b0 [] []] = some ⟨(.exit 0), ⟨39, [], []⟩, [], [], [(decide (((a.l.length : Nat) : Int) < (((V.rows a.l).length : Nat) : Int))) = false]⟩ by kernel_rfl) (pc (lt_ff (V.rows_length _)) pn) cn
      ·intro i x s hx hi hI
       cases g6 : (V.great x (IntKind.i64.wrap (b + 1)))
       ·have hb : (m79_b0 a b) x i s = .next () := by simp only [m79_b0, g6, cond_true, cond_false]
        rw [hb]
        have hr := wo (show run TP 99 (bodyAt Tryz.f79 [1, 1, 1, 1, 0, 1, 0, 0]) ⟨39, [(1, (tI b)), (2, (.ptr 2 0)), (5, (tI ((i : Nat) : Int)))], [(2, .os [(tI a.k), (tI a.i), (tF a.f), (tS a.s), (tL (V.rows a.l))])]⟩ [rg [1, 2, 5, 28] [2], b1 [1, 2, 5] [2], .reg [.cellsT (VC x), (rr (tB (V.great x (IntKind.i64.wrap (b + 1)))))] [] [1, 2, 5, 38] [2], b0 [1, 2, 5] [2], rg [1, 2, 5] [2]] = some ⟨.normal, ⟨39, [(1, (tI b)), (2, (.ptr 2 0)), (5, (tI (IntKind.i64.wrap (((i : Nat) : Int) + 1))))], [(2, .os [(tI a.k), (tI a.i), (tF a.f), (tS a.s), (tL (V.rows a.l))])]⟩, [], _, [(decide (((i : Nat) : Int) < (((V.rows a.l).length : Nat) : Int))) = true, (0 : Int) ≤ ((i : Nat) : Int), _, _]⟩ by kernel_rfl) (pc (lt_tt hi (V.rows_length _)) (pc (Int.natCast_nonneg _) (pc (V.rows_at hx) (pc g6 pn)))) (cc (ih x (List.mem_of_getElem? hx) (IntKind.i64.wrap (b + 1))) cn)
        rw [wrap_succ hi hlen] at hr
        exact ⟨hr, fun _ _ => trivial⟩
       ·have hb : (m79_b0 a b) x i s = .ret true := by simp only [m79_b0, g6, cond_true, cond_false]
        rw [hb]
        have hr := wo (show run TP 99 (bodyAt Tryz.f79 [1, 1, 1, 1, 0, 1, 0, 0]) ⟨39, [(1, (tI b)), (2, (.ptr 2 0)), (5, (tI ((i : Nat) : Int)))], [(2, .os [(tI a.k), (tI a.i), (tF a.f), (tS a.s), (tL (V.rows a.l))])]⟩ [rg [1, 2, 5, 28] [2], b1 [1, 2, 5] [2], .reg [.cellsT (VC x), (rr (tB (V.great x (IntKind.i64.wrap (b + 1)))))] [] [1, 2, 5, 38] [2], b1 [] [], rg [4] []] = some ⟨.ret, ⟨39, [(4, (tB true))], []⟩, [], _, [(decide (((i : Nat) : Int) < (((V.rows a.l).length : Nat) : Int))) = true, (0 : Int) ≤ ((i : Nat) : Int), _, _]⟩ by kernel_rfl) (pc (lt_tt hi (V.rows_length _)) (pc (Int.natCast_nonneg _) (pc (V.rows_at hx) (pc g6 pn)))) (cc (ih x (List.mem_of_getElem? hx) (IntKind.i64.wrap (b + 1))) cn)
        exact ⟨hr, fun _ _ => trivial⟩
     cases h5 : (lp (m79_b0 a b) a.l 0 ()) with
     | inl q5 => 
      rw [show m79 a b = q5 by simp only [m79, h1, h2, h3, h4, h5, cond_true, cond_false]]
      rw [h5] at hl1
      exact co Tryz.func79 (by kernel_rfl) (show runF TP 99 Tryz.f79 [(VM a), (tI b)] [] [] [rg [1, 2] [2], rg [1, 2, 8] [2], b0 [1, 2] [2], rg [1, 2, 15] [2], b0 [1, 2] [2], .reg [.bit false] [] [1, 2, 23] [2], b0 [1, 2] [2], rg [1, 2, 5] [2], .cut .ret ⟨39, [(4, (tB q5))], []⟩] = some ⟨.ret (tB q5), [], [], [_, _, _, _, _]⟩ by kernel_rfl) (pc h1 (pc h2 (pc h3 (pc h4 (pc hl1 pn))))) cn
     | inr q5 => 
      rw [show m79 a b = false by simp only [m79, h1, h2, h3, h4, h5, cond_true, cond_false]]
      rw [h5] at hl1
      exact co Tryz.func79 (by kernel_rfl) (show runF TP 99 Tryz.f79 [(VM a), (tI b)] [] [] [rg [1, 2] [2], rg [1, 2, 8] [2], b0 [1, 2] [2], rg [1, 2, 15] [2], b0 [1, 2] [2], .reg [.bit false] [] [1, 2, 23] [2], b0 [1, 2] [2], rg [1, 2, 5] [2], .cut (.exit 0) ⟨39, [], []⟩, rg [4] []] = some ⟨.ret (tB false), [], [], [_, _, _, _, _]⟩ by kernel_rfl) (pc h1 (pc h2 (pc h3 (pc h4 (pc hl1 pn))))) cn
    ·rw [show m79 a b = true by simp only [m79, h1, h2, h3, h4, cond_true, cond_false]]
     exact co Tryz.func79 (by kernel_rfl) (show runF TP 99 Tryz.f79 [(VM a), (tI b)] [] [] [rg [1, 2] [2], rg [1, 2, 8] [2], b0 [1, 2] [2], rg [1, 2, 15] [2], b0 [1, 2] [2], .reg [.bit false] [] [1, 2, 23] [2], b1 [] [], rg [4] []] = some ⟨.ret (tB true), [], [], [_, _, _, _]⟩ by kernel_rfl) (pc h1 (pc h2 (pc h3 (pc h4 pn)))) cn
   ·rw [show m79 a b = true by simp only [m79, h1, h2, h3, cond_true, cond_false]]
    exact co Tryz.func79 (by kernel_rfl) (show runF TP 99 Tryz.f79 [(VM a), (tI b)] [] [] [rg [1, 2] [2], rg [1, 2, 8] [2], b0 [1, 2] [2], rg [1, 2, 15] [2], b0 [1, 2] [2], .reg [.bit true] [] [1, 2, 23] [2], b1 [] [], rg [4] []] = some ⟨.ret (tB true), [], [], [_, _, _, true = true]⟩ by kernel_rfl) (pc h1 (pc h2 (pc h3 (pc rfl pn)))) cn
  ·rw [show m79 a b = false by simp only [m79, h1, h2, cond_true, cond_false]]
   exact co Tryz.func79 (by kernel_rfl) (show runF TP 99 Tryz.f79 [(VM a), (tI b)] [] [] [rg [1, 2] [2], rg [1, 2, 8] [2], b0 [1, 2] [2], rg [1, 2, 15] [2], b1 [] [], rg [4] []] = some ⟨.ret (tB false), [], [], [_, _]⟩ by kernel_rfl) (pc h1 (pc h2 pn)) cn
 ·rw [show m79 a b = (decide ((a.s.size : Int) > (256 : Int))) by simp only [m79, h1, cond_true, cond_false]]
  exact co Tryz.func79 (by kernel_rfl) (show runF TP 99 Tryz.f79 [(VM a), (tI b)] [] [] [rg [1, 2] [2], rg [1, 2, 8] [2], b1 [2] [2], rg [4] []] = some ⟨.ret (tB (decide ((a.s.size : Int) > (256 : Int)))), [], [], [_]⟩ by kernel_rfl) (pc h1 pn) cn
def m23 (a : (Option Nat)) : Int :=
 (m47 (m46 a))
theorem f23_ok (a : (Option Nat)) : CallOk TP 23 [(tF a)] [] (.ret (.t (.s (.int .u64 (m23 a))))) [] := by
 rw [show m23 a = (m47 (m46 a)) by simp only [m23]]
 exact co Tryz.func23 (by kernel_rfl) (show runF TP 99 Tryz.f23 [(tF a)] [] [] [rg [0] [], .reg [(rr (tF (m46 a))), (rr (.t (.s (.int .u64 (m47 (m46 a))))))] [] [2] []] = some ⟨.ret (.t (.s (.int .u64 (m47 (m46 a))))), [], _, []⟩ by kernel_rfl) pn (cc (f46_ok a) (cc (f47_ok (m46 a) (canon_some _)) cn))
def m14_b0 (a : V) (b : V) (x : V) (i : Nat) (s : Unit) : Rd (Bool) (Unit) :=
 bif (V.same x (b.l[(((i : Nat) : Int) : Int).toNat]?.getD default)) then
  .next ()
 else
  .ret false
def m14 (a : V) (b : V) : Bool :=
 bif (a.k != b.k) then
  false
 else
  bif (a.i != b.i) then
   false
  else
   bif ((m23 a.f) != (m23 b.f)) then
    false
   else
    bif (a.s.toList == b.s.toList) then
     bif ((((V.rows a.l).length : Nat) : Int) != (((V.rows b.l).length : Nat) : Int)) then
      false
     else
      match (lp (m14_b0 a b) a.l 0 ()) with
      | .inl q6 => (
       q6)
      | .inr q6 => (
       true)
    else
     false
theorem m14_loop (a b : V) : ∀ (l : List V) (i : Nat), (match lp (m14_b0 a b) l i () with | .inl q => q | .inr _ => true) = V.sames l (b.l.drop i)
 | [], i => rfl
 | x :: r, i => by
  have e : (b.l.drop i)[0]?.getD default = b.l[(((i : Nat) : Int) : Int).toNat]?.getD default := by simp
  simp only [lp, m14_b0, V.sames, e]
  cases h : x.same (b.l[(((i : Nat) : Int) : Int).toNat]?.getD default)
  ·simp
  ·simpa [h, List.drop_drop] using m14_loop a b r (i + 1)
theorem vsame_eq (a b : V) : V.same a b = m14 a b := by
 unfold m14
 rw [m14_loop]
 obtain ⟨k, i, f, s, l⟩ := a
 simp only [V.same, V.k, V.i, V.f, V.s, V.l, V.rows_length, List.drop_zero]
 rfl
theorem f14_ok (a : V) (b : V) : CallOk TP 14 [(VM a), (VM b)] [] (.ret (tB (V.same a b))) [] := by
 revert b; refine V.induct (p := fun a => ∀ b, CallOk TP 14 [(VM a), (VM b)] [] (.ret (tB (V.same a b))) []) ?_ a; intro a ih b
 rw [vsame_eq a b]
 refine CallOk.short fun hsh => ?_
 cases h1 : (a.k != b.k)
 ·cases h2 : (a.i != b.i)
  ·cases h3 : ((m23 a.f) != (m23 b.f))
   ·cases h4 : (a.s.toList == b.s.toList)
    ·rw [show m14 a b = false by simp only [m14, h1, h2, h3, h4, cond_true, cond_false]]
     exact co Tryz.func14 (by kernel_rfl) (show runF TP 99 Tryz.f14 [(VM a), (VM b)] [] [] [rg [2, 3] [2, 3], .drw [[], [], [], [], [], [.bit false], [], [], [], [], [], [], [.bit false], [], [], [(rr (.t (.s (.int .u64 (m23 a.f)))))], [], [], [(rr (.t (.s (.int .u64 (m23 b.f)))))], [], [], [.bit false], [], [], [], [], [], [], [.bit true], [], [], [], [], [], [], [], []] [] [2, 3, 42] [2, 3], b1 [] [], rg [4] []] = some ⟨.ret (tB false), [], _, [_, _, _, _, true = true]⟩ by kernel_rfl) (pc h1 (pc h2 (pc h3 (pc (not_tt h4) (pc rfl pn))))) (cc (f23_ok a.f) (cc (f23_ok b.f) cn))
    ·cases h5 : ((((V.rows a.l).length : Nat) : Int) != (((V.rows b.l).length : Nat) : Int))
     ·have hlen : a.l.length ≤ 274877906944 := (V.short_of hsh.1).len
      have hl1 : W TP (bodyAt Tryz.f14 [1, 1, 0, 1, 0]) ⟨62, [(2, (.ptr 2 0)), (3, (.ptr 3 0)), (5, (tI 0))], [(2, .os [(tI a.k), (tI a.i), (tF a.f), (tS a.s), (tL (V.rows a.l))]), (3, .os [(tI b.k), (tI b.i), (tF b.f), (tS b.s), (tL (V.rows b.l))])]⟩ (lpPost (fun (i : Nat) (s : Unit) => (⟨62, [], []⟩ : St)) (fun (r : Bool) => (⟨62, [(4, (tB r))], []⟩ : St)) (.exit 0) (lp (m14_b0 a b) a.l 0 ())) := by
       refine lp1_W (e := (.exit 0)) (c := bodyAt Tryz.f14 [1, 1, 0, 1, 0, 0]) a.l (fun (i : Nat) (s : Unit) => (⟨62, [(2, (.ptr 2 0)), (3, (.ptr 3 0)), (5, (tI ((i : Nat) : Int)))], [(2, .os [(tI a.k), (tI a.i), (tF a.f), (tS a.s), (tL (V.rows a.l))]), (3, .os [(tI b.k), (tI b.i), (tF b.f), (tS b.s), (tL (V.rows b.l))])]⟩ : St)) (fun (i : Nat) (s : Unit) => (⟨62, [], []⟩ : St)) (fun (r : Bool) => (⟨62, [(4, (tB r))], []⟩ : St)) (m14_b0 a b) (fun (i : Nat) (s : Unit) => (True : Prop)) () trivial (by kernel_rfl) (by simp) ?_ ?_
       ·intro s hI
        exact wo (show run TP 99 (bodyAt Tryz.f14 [1, 1, 0, 1, 0, 0]) ⟨62, [(2, (.ptr 2 0)), (3, (.ptr 3 0)), (5, (tI ((a.l.length : Nat) : Int)))], [(2, .os [(tI a.k), (tI a.i), (tF a.f), (tS a.s), (tL (V.rows a.l))]), (3, .os [(tI b.k), (tI b.i), (tF b.f), (tS b.s), (tL (V.rows b.l))])]⟩ [rg [2, 3, 5, 47] [2, 3], b0 [] []] = some ⟨(.exit 0), ⟨62, [], []⟩, [], [], [(decide (((a.l.length : Nat) : Int) < (((V.rows a.l).length : Nat) : Int))) = false]⟩ by kernel_rfl) (pc (lt_ff (V.rows_length _)) pn) cn
       ·intro i x s hx hi hI
        cases g7 : (V.same x (b.l[(((i : Nat) : Int) : Int).toNat]?.getD default))
        ·have hb : (m14_b0 a b) x i s = .ret false := by simp only [m14_b0, g7, cond_true, cond_false]
         rw [hb]
         have hr := wo (show run TP 99 (bodyAt Tryz.f14 [1, 1, 0, 1, 0, 0]) ⟨62, [(2, (.ptr 2 0)), (3, (.ptr 3 0)), (5, (tI ((i : Nat) : Int)))], [(2, .os [(tI a.k), (tI a.i), (tF a.f), (tS a.s), (tL (V.rows a.l))]), (3, .os [(tI b.k), (tI b.i), (tF b.f), (tS b.s), (tL (V.rows b.l))])]⟩ [rg [2, 3, 5, 47] [2, 3], b1 [2, 3, 5] [2, 3], .drw [[], [], [], [.cellsT (VC x)], [], [], [], [], [.cellsT (VC (b.l[(((i : Nat) : Int) : Int).toNat]?.getD default))], [], [(rr (tB (V.same x (b.l[(((i : Nat) : Int) : Int).toNat]?.getD default))))], []] [] [2, 3, 5, 61] [2, 3], b1 [] [], rg [4] []] = some ⟨.ret, ⟨62, [(4, (tB false))], []⟩, [], _, [(decide (((i : Nat) : Int) < (((V.rows a.l).length : Nat) : Int))) = true, (0 : Int) ≤ ((i : Nat) : Int), _, (0 : Int) ≤ ((i : Nat) : Int), (V.rows b.l)[(((i : Nat) : Int) : Int).toNat]? = some (VC (b.l[(((i : Nat) : Int) : Int).toNat]?.getD default)), _]⟩ by kernel_rfl) (pc (lt_tt hi (V.rows_length _)) (pc (Int.natCast_nonneg _) (pc (V.rows_at hx) (pc (Int.natCast_nonneg _) (pc (pickI V.rows_get (by simp only [V.rows_length] at *; simp at *; omega)) (pc (not_tt g7) pn)))))) (cc (ih x (List.mem_of_getElem? hx) (b.l[(((i : Nat) : Int) : Int).toNat]?.getD default)) cn)
         exact ⟨hr, fun _ _ => trivial⟩
        ·have hb : (m14_b0 a b) x i s = .next () := by simp only [m14_b0, g7, cond_true, cond_false]
         rw [hb]
         have hr := wo (show run TP 99 (bodyAt Tryz.f14 [1, 1, 0, 1, 0, 0]) ⟨62, [(2, (.ptr 2 0)), (3, (.ptr 3 0)), (5, (tI ((i : Nat) : Int)))], [(2, .os [(tI a.k), (tI a.i), (tF a.f), (tS a.s), (tL (V.rows a.l))]), (3, .os [(tI b.k), (tI b.i), (tF b.f), (tS b.s), (tL (V.rows b.l))])]⟩ [rg [2, 3, 5, 47] [2, 3], b1 [2, 3, 5] [2, 3], .drw [[], [], [], [.cellsT (VC x)], [], [], [], [], [.cellsT (VC (b.l[(((i : Nat) : Int) : Int).toNat]?.getD default))], [], [(rr (tB (V.same x (b.l[(((i : Nat) : Int) : Int).toNat]?.getD default))))], []] [] [2, 3, 5, 61] [2, 3], b0 [2, 3, 5] [2, 3], rg [2, 3, 5] [2, 3]] = some ⟨.normal, ⟨62, [(2, (.ptr 2 0)), (3, (.ptr 3 0)), (5, (tI (IntKind.i64.wrap (((i : Nat) : Int) + 1))))], [(2, .os [(tI a.k), (tI a.i), (tF a.f), (tS a.s), (tL (V.rows a.l))]), (3, .os [(tI b.k), (tI b.i), (tF b.f), (tS b.s), (tL (V.rows b.l))])]⟩, [], _, [(decide (((i : Nat) : Int) < (((V.rows a.l).length : Nat) : Int))) = true, (0 : Int) ≤ ((i : Nat) : Int), _, (0 : Int) ≤ ((i : Nat) : Int), (V.rows b.l)[(((i : Nat) : Int) : Int).toNat]? = some (VC (b.l[(((i : Nat) : Int) : Int).toNat]?.getD default)), _]⟩ by kernel_rfl) (pc (lt_tt hi (V.rows_length _)) (pc (Int.natCast_nonneg _) (pc (V.rows_at hx) (pc (Int.natCast_nonneg _) (pc (pickI V.rows_get (by simp only [V.rows_length] at *; simp at *; omega)) (pc (not_ff g7) pn)))))) (cc (ih x (List.mem_of_getElem? hx) (b.l[(((i : Nat) : Int) : Int).toNat]?.getD default)) cn)
         rw [wrap_succ hi hlen] at hr
         exact ⟨hr, fun _ _ => trivial⟩
      cases h6 : (lp (m14_b0 a b) a.l 0 ()) with
      | inl q6 => 
       rw [show m14 a b = q6 by simp only [m14, h1, h2, h3, h4, h5, h6, cond_true, cond_false]]
       rw [h6] at hl1
       exact co Tryz.func14 (by kernel_rfl) (show runF TP 99 Tryz.f14 [(VM a), (VM b)] [] [] [rg [2, 3] [2, 3], .drw [[], [], [], [], [], [.bit false], [], [], [], [], [], [], [.bit false], [], [], [(rr (.t (.s (.int .u64 (m23 a.f)))))], [], [], [(rr (.t (.s (.int .u64 (m23 b.f)))))], [], [], [.bit false], [], [], [], [], [], [], [.bit false], [], [], [], [], [], [], [], []] [] [2, 3, 42] [2, 3], b0 [2, 3] [2, 3], rg [2, 3, 5] [2, 3], .cut .ret ⟨62, [(4, (tB q6))], []⟩] = some ⟨.ret (tB q6), [], _, [_, _, _, _, _, _]⟩ by kernel_rfl) (pc h1 (pc h2 (pc h3 (pc (not_ff h4) (pc h5 (pc hl1 pn)))))) (cc (f23_ok a.f) (cc (f23_ok b.f) cn))
      | inr q6 => 
       rw [show m14 a b = true by simp only [m14, h1, h2, h3, h4, h5, h6, cond_true, cond_false]]
       rw [h6] at hl1
       exact co Tryz.func14 (by kernel_rfl) (show runF TP 99 Tryz.f14 [(VM a), (VM b)] [] [] [rg [2, 3] [2, 3], .drw [[], [], [], [], [], [.bit false], [], [], [], [], [], [], [.bit false], [], [], [(rr (.t (.s (.int .u64 (m23 a.f)))))], [], [], [(rr (.t (.s (.int .u64 (m23 b.f)))))], [], [], [.bit false], [], [], [], [], [], [], [.bit false], [], [], [], [], [], [], [], []] [] [2, 3, 42] [2, 3], b0 [2, 3] [2, 3], rg [2, 3, 5] [2, 3], .cut (.exit 0) ⟨62, [], []⟩, rg [4] []] = some ⟨.ret (tB true), [], _, [_, _, _, _, _, _]⟩ by kernel_rfl) (pc h1 (pc h2 (pc h3 (pc (not_ff h4) (pc h5 (pc hl1 pn)))))) (cc (f23_ok a.f) (cc (f23_ok b.f) cn))
     ·rw [show m14 a b = false by simp only [m14, h1, h2, h3, h4, h5, cond_true, cond_false]]
      exact co Tryz.func14 (by kernel_rfl) (show runF TP 99 Tryz.f14 [(VM a), (VM b)] [] [] [rg [2, 3] [2, 3], .drw [[], [], [], [], [], [.bit false], [], [], [], [], [], [], [.bit false], [], [], [(rr (.t (.s (.int .u64 (m23 a.f)))))], [], [], [(rr (.t (.s (.int .u64 (m23 b.f)))))], [], [], [.bit false], [], [], [], [], [], [], [.bit false], [], [], [], [], [], [], [], []] [] [2, 3, 42] [2, 3], b1 [] [], rg [4] []] = some ⟨.ret (tB false), [], _, [_, _, _, _, _]⟩ by kernel_rfl) (pc h1 (pc h2 (pc h3 (pc (not_ff h4) (pc h5 pn))))) (cc (f23_ok a.f) (cc (f23_ok b.f) cn))
   ·rw [show m14 a b = false by simp only [m14, h1, h2, h3, cond_true, cond_false]]
    exact co Tryz.func14 (by kernel_rfl) (show runF TP 99 Tryz.f14 [(VM a), (VM b)] [] [] [rg [2, 3] [2, 3], .drw [[], [], [], [], [], [.bit false], [], [], [], [], [], [], [.bit false], [], [], [(rr (.t (.s (.int .u64 (m23 a.f)))))], [], [], [(rr (.t (.s (.int .u64 (m23 b.f)))))], [], [], [.bit true], [], [], [], [], [], [], [.bit true], [], [], [], [], [], [], [], []] [] [2, 3, 42] [2, 3], b1 [] [], rg [4] []] = some ⟨.ret (tB false), [], _, [_, _, _, true = true, true = true]⟩ by kernel_rfl) (pc h1 (pc h2 (pc h3 (pc rfl (pc rfl pn))))) (cc (f23_ok a.f) (cc (f23_ok b.f) cn))
  ·rw [show m14 a b = false by simp only [m14, h1, h2, cond_true, cond_false]]
   exact co Tryz.func14 (by kernel_rfl) (show runF TP 99 Tryz.f14 [(VM a), (VM b)] [] [] [rg [2, 3] [2, 3], .drw [[], [], [], [], [], [.bit false], [], [], [], [], [], [], [.bit true], [], [], [], [], [], [], [], [], [.bit true], [], [], [], [], [], [], [.bit true], [], [], [], [], [], [], [], []] [] [2, 3, 42] [2, 3], b1 [] [], rg [4] []] = some ⟨.ret (tB false), [], [], [_, _, true = true, true = true, true = true]⟩ by kernel_rfl) (pc h1 (pc h2 (pc rfl (pc rfl (pc rfl pn))))) cn
 ·rw [show m14 a b = false by simp only [m14, h1, cond_true, cond_false]]
  exact co Tryz.func14 (by kernel_rfl) (show runF TP 99 Tryz.f14 [(VM a), (VM b)] [] [] [rg [2, 3] [2, 3], .drw [[], [], [], [], [], [.bit true], [], [], [], [], [], [], [.bit true], [], [], [], [], [], [], [], [], [.bit true], [], [], [], [], [], [], [.bit true], [], [], [], [], [], [], [], []] [] [2, 3, 42] [2, 3], b1 [] [], rg [4] []] = some ⟨.ret (tB false), [], [], [_, true = true, true = true, true = true, true = true]⟩ by kernel_rfl) (pc h1 (pc rfl (pc rfl (pc rfl (pc rfl pn))))) cn
def m16 (a : V) : Bool :=
 bif (V.deep a 20) then
  false
 else
  (decide ((V.wsz a) ≤ (6000 : Int)))
theorem f16_ok (a : V) : CallOk TP 16 [(VM a)] [] (.ret (tB (m16 a))) [] := by
 cases h1 : (V.deep a 20)
 ·rw [show m16 a = (decide ((V.wsz a) ≤ (6000 : Int))) by simp only [m16, h1, cond_true, cond_false]]
  exact co Tryz.func16 (by kernel_rfl) (show runF TP 99 Tryz.f16 [(VM a)] [] [] [rg [1] [1], .reg [(rr (tB (V.deep a 20))), .bit true, (rr (tI (V.wsz a)))] [] [2] []] = some ⟨.ret (tB (decide ((V.wsz a) ≤ (6000 : Int)))), [], _, [_]⟩ by kernel_rfl) (pc (not_tt h1) pn) (cc (f42_ok a 20) (cc (f43_ok a) cn))
 ·rw [show m16 a = false by simp only [m16, h1, cond_true, cond_false]]
  exact co Tryz.func16 (by kernel_rfl) (show runF TP 99 Tryz.f16 [(VM a)] [] [] [rg [1] [1], .reg [(rr (tB (V.deep a 20))), .bit false] [] [2] []] = some ⟨.ret (tB false), [], _, [_]⟩ by kernel_rfl) (pc (not_ff h1) pn) (cc (f42_ok a 20) cn)
def m10_b0 (a : (List V)) (x : V) (i : Nat) (s : Unit) : Rd (Bool) (Unit) :=
 bif (m16 x) then
  .next ()
 else
  .ret false
def m10 (a : (List V)) : Bool :=
 bif (decide ((((V.rows a).length : Nat) : Int) > (40 : Int))) then
  false
 else
  match (lp (m10_b0 a) a 0 ()) with
  | .inl q2 => (
   q2)
  | .inr q2 => (
   true)
theorem f10_ok (a : (List V)) : CallOk TP 10 [(tL (V.rows a))] [] (.ret (tB (m10 a))) [] := by
 refine CallOk.short fun hsh => ?_
 cases h1 : (decide ((((V.rows a).length : Nat) : Int) > (40 : Int)))
 ·have hlen : a.length ≤ 274877906944 := (V.len hsh.1)
  have hl1 : W TP (bodyAt Tryz.f10 [1, 1, 0, 1, 0]) ⟨19, [(0, (tL (V.rows a))), (3, (tI 0))], []⟩ (lpPost (fun (i : Nat) (s : Unit) => (⟨19, [], []⟩ : St)) (fun (r : Bool) => (⟨19, [(2, (tB r))], []⟩ : St)) (.exit 0) (lp (m10_b0 a) a 0 ())) := by
   refine lp1_W (e := (.exit 0)) (c := bodyAt Tryz.f10 [1, 1, 0, 1, 0, 0]) a (fun (i : Nat) (s : Unit) => (⟨19, [(0, (tL (V.rows a))), (3, (tI ((i : Nat) : Int)))], []⟩ : St)) (fun (i : Nat) (s : Unit) => (⟨19, [], []⟩ : St)) (fun (r : Bool) => (⟨19, [(2, (tB r))], []⟩ : St)) (m10_b0 a) (fun (i : Nat) (s : Unit) => (True : Prop)) () trivial (by kernel_rfl) (by simp) ?_ ?_
   ·intro s hI
    exact wo (show run TP 99 (bodyAt Tryz.f10 [1, 1, 0, 1, 0, 0]) ⟨19, [(0, (tL (V.rows a))), (3, (tI ((a.length : Nat) : Int)))], []⟩ [rg [0, 3, 10] [], b0 [] []] = some ⟨(.exit 0), ⟨19, [], []⟩, [], [], [(decide (((a.length : Nat) : Int) < (((V.rows a).length : Nat) : Int))) = false]⟩ by kernel_rfl) (pc (lt_ff (V.rows_length _)) pn) cn
   ·intro i x s hx hi hI
    cases g3 : (m16 x)
    ·have hb : (m10_b0 a) x i s = .ret false := by simp only [m10_b0, g3, cond_true, cond_false]
     rw [hb]
     have hr := wo (show run TP 99 (bodyAt Tryz.f10 [1, 1, 0, 1, 0, 0]) ⟨19, [(0, (tL (V.rows a))), (3, (tI ((i : Nat) : Int)))], []⟩ [rg [0, 3, 10] [], b1 [0, 3] [], .reg [.cellsT (VC x), (rr (tB (m16 x)))] [] [0, 3, 18] [], b1 [] [], rg [2] []] = some ⟨.ret, ⟨19, [(2, (tB false))], []⟩, [], _, [(decide (((i : Nat) : Int) < (((V.rows a).length : Nat) : Int))) = true, (0 : Int) ≤ ((i : Nat) : Int), _, _]⟩ by kernel_rfl) (pc (lt_tt hi (V.rows_length _)) (pc (Int.natCast_nonneg _) (pc (V.rows_at hx) (pc (not_tt g3) pn)))) (cc (f16_ok x) cn)
     exact ⟨hr, fun _ _ => trivial⟩
    ·have hb : (m10_b0 a) x i s = .next () := by simp only [m10_b0, g3, cond_true, cond_false]
     rw [hb]
     have hr := wo (show run TP 99 (bodyAt Tryz.f10 [1, 1, 0, 1, 0, 0]) ⟨19, [(0, (tL (V.rows a))), (3, (tI ((i : Nat) : Int)))], []⟩ [rg [0, 3, 10] [], b1 [0, 3] [], .reg [.cellsT (VC x), (rr (tB (m16 x)))] [] [0, 3, 18] [], b0 [0, 3] [], rg [0, 3] []] = some ⟨.normal, ⟨19, [(0, (tL (V.rows a))), (3, (tI (IntKind.i64.wrap (((i : Nat) : Int) + 1))))], []⟩, [], _, [(decide (((i : Nat) : Int) < (((V.rows a).length : Nat) : Int))) = true, (0 : Int) ≤ ((i : Nat) : Int), _, _]⟩ by kernel_rfl) (pc (lt_tt hi (V.rows_length _)) (pc (Int.natCast_nonneg _) (pc (V.rows_at hx) (pc (not_ff g3) pn)))) (cc (f16_ok x) cn)
     rw [wrap_succ hi hlen] at hr
     exact ⟨hr, fun _ _ => trivial⟩
  cases h2 : (lp (m10_b0 a) a 0 ()) with
  | inl q2 => 
   rw [show m10 a = q2 by simp only [m10, h1, h2, cond_true, cond_false]]
   rw [h2] at hl1
   exact co Tryz.func10 (by kernel_rfl) (show runF TP 99 Tryz.f10 [(tL (V.rows a))] [] [] [rg [0] [], rg [0, 6] [], b0 [0] [], rg [0, 3] [], .cut .ret ⟨19, [(2, (tB q2))], []⟩] = some ⟨.ret (tB q2), [], [], [_, _]⟩ by kernel_rfl) (pc h1 (pc hl1 pn)) cn
  | inr q2 => 
   rw [show m10 a = true by simp only [m10, h1, h2, cond_true, cond_false]]
   rw [h2] at hl1
   exact co Tryz.func10 (by kernel_rfl) (show runF TP 99 Tryz.f10 [(tL (V.rows a))] [] [] [rg [0] [], rg [0, 6] [], b0 [0] [], rg [0, 3] [], .cut (.exit 0) ⟨19, [], []⟩, rg [2] []] = some ⟨.ret (tB true), [], [], [_, _]⟩ by kernel_rfl) (pc h1 (pc hl1 pn)) cn
 ·rw [show m10 a = false by simp only [m10, h1, cond_true, cond_false]]
  exact co Tryz.func10 (by kernel_rfl) (show runF TP 99 Tryz.f10 [(tL (V.rows a))] [] [] [rg [0] [], rg [0, 6] [], b1 [] [], rg [2] []] = some ⟨.ret (tB false), [], [], [_]⟩ by kernel_rfl) (pc h1 pn) cn
def m18 (a : (List V)) : V :=
 (V.mk 4 0 (some 0) bE a)
theorem f18_ok (a : (List V)) : CallOk TP 18 [(tL (V.rows a))] [] (.ret (VM (m18 a))) [] := by
 rw [show m18 a = (V.mk 4 0 (some 0) bE a) by simp only [m18]]
 exact co Tryz.func18 (by kernel_rfl) (show runF TP 99 Tryz.f18 [(tL (V.rows a))] [] [] [rg [0, 2] [2], rg [2] [2]] = some ⟨.ret (.agg [(tI 4), (tI 0), (tF (some 0)), (tS bE), (tL (V.rows a))]), [], [], []⟩ by kernel_rfl) pn cn
def m45 (a : V) : Int :=
 bif (V.kinds a) then
  bif (V.great a 0) then
   22
  else
   bif (decide ((V.wsz a) > (4096 : Int))) then
    22
   else
    0
 else
  31
theorem f45_ok (a : V) : CallOk TP 45 [(VM a)] [] (.ret (tI (m45 a))) [] := by
 cases h1 : (V.kinds a)
 ·rw [show m45 a = 31 by simp only [m45, h1, cond_true, cond_false]]
  exact co Tryz.func45 (by kernel_rfl) (show runF TP 99 Tryz.f45 [(VM a)] [] [] [rg [1] [1], .reg [(rr (tB (V.kinds a)))] [] [1, 5] [1], b1 [] [], rg [2] []] = some ⟨.ret (tI 31), [], _, [_]⟩ by kernel_rfl) (pc (not_tt h1) pn) (cc (f78_ok a) cn)
 ·cases h2 : (V.great a 0)
  ·cases h3 : (decide ((V.wsz a) > (4096 : Int)))
   ·rw [show m45 a = 0 by simp only [m45, h1, h2, h3, cond_true, cond_false]]
    exact co Tryz.func45 (by kernel_rfl) (show runF TP 99 Tryz.f45 [(VM a)] [] [] [rg [1] [1], .reg [(rr (tB (V.kinds a)))] [] [1, 5] [1], b0 [1] [1], .reg [(rr (tB (V.great a 0))), .bit false, (rr (tI (V.wsz a)))] [] [12] [], b0 [] [], rg [2] []] = some ⟨.ret (tI 0), [], _, [_, _, _]⟩ by kernel_rfl) (pc (not_ff h1) (pc h2 (pc h3 pn))) (cc (f78_ok a) (cc (f79_ok a 0) (cc (f43_ok a) cn)))
   ·rw [show m45 a = 22 by simp only [m45, h1, h2, h3, cond_true, cond_false]]
    exact co Tryz.func45 (by kernel_rfl) (show runF TP 99 Tryz.f45 [(VM a)] [] [] [rg [1] [1], .reg [(rr (tB (V.kinds a)))] [] [1, 5] [1], b0 [1] [1], .reg [(rr (tB (V.great a 0))), .bit false, (rr (tI (V.wsz a)))] [] [12] [], b1 [] [], rg [2] []] = some ⟨.ret (tI 22), [], _, [_, _, _]⟩ by kernel_rfl) (pc (not_ff h1) (pc h2 (pc h3 pn))) (cc (f78_ok a) (cc (f79_ok a 0) (cc (f43_ok a) cn)))
  ·rw [show m45 a = 22 by simp only [m45, h1, h2, cond_true, cond_false]]
   exact co Tryz.func45 (by kernel_rfl) (show runF TP 99 Tryz.f45 [(VM a)] [] [] [rg [1] [1], .reg [(rr (tB (V.kinds a)))] [] [1, 5] [1], b0 [1] [1], .reg [(rr (tB (V.great a 0))), .bit true] [] [12] [], b1 [] [], rg [2] []] = some ⟨.ret (tI 22), [], _, [_, _, true = true]⟩ by kernel_rfl) (pc (not_ff h1) (pc h2 (pc rfl pn))) (cc (f78_ok a) (cc (f79_ok a 0) cn))
def m77 (a : V) : Bool :=
 bif (a.k == (3 : Int)) then
  bif (decide ((a.s.size : Int) ≥ (1 : Int))) then
   (decide ((a.s.size : Int) ≤ (32 : Int)))
  else
   false
 else
  false
theorem f77_ok (a : V) : CallOk TP 77 [(VM a)] [] (.ret (tB (m77 a))) [] := by
 cases h1 : (a.k == (3 : Int))
 ·rw [show m77 a = false by simp only [m77, h1, cond_true, cond_false]]
  exact co Tryz.func77 (by kernel_rfl) (show runF TP 99 Tryz.f77 [(VM a)] [] [] [rg [1] [1], .reg [.bit false, .bit false] [] [2] []] = some ⟨.ret (tB false), [], [], [_, false = false]⟩ by kernel_rfl) (pc h1 (pc rfl pn)) cn
 ·cases h2 : (decide ((a.s.size : Int) ≥ (1 : Int)))
  ·rw [show m77 a = false by simp only [m77, h1, h2, cond_true, cond_false]]
   exact co Tryz.func77 (by kernel_rfl) (show runF TP 99 Tryz.f77 [(VM a)] [] [] [rg [1] [1], .reg [.bit true, .bit false] [] [2] []] = some ⟨.ret (tB false), [], [], [_, _]⟩ by kernel_rfl) (pc h1 (pc h2 pn)) cn
  ·rw [show m77 a = (decide ((a.s.size : Int) ≤ (32 : Int))) by simp only [m77, h1, h2, cond_true, cond_false]]
   exact co Tryz.func77 (by kernel_rfl) (show runF TP 99 Tryz.f77 [(VM a)] [] [] [rg [1] [1], .reg [.bit true, .bit true] [] [2] []] = some ⟨.ret (tB (decide ((a.s.size : Int) ≤ (32 : Int)))), [], [], [_, _]⟩ by kernel_rfl) (pc h1 (pc h2 pn)) cn
def m91 (a : V) : Bool :=
 bif (a.k == (1 : Int)) then
  true
 else
  (a.k == (2 : Int))
theorem f91_ok (a : V) : CallOk TP 91 [(VM a)] [] (.ret (tB (m91 a))) [] := by
 cases h1 : (a.k == (1 : Int))
 ·rw [show m91 a = (a.k == (2 : Int)) by simp only [m91, h1, cond_true, cond_false]]
  exact co Tryz.func91 (by kernel_rfl) (show runF TP 99 Tryz.f91 [(VM a)] [] [] [rg [1] [1], .reg [.bit false] [] [2] []] = some ⟨.ret (tB (a.k == (2 : Int))), [], [], [_]⟩ by kernel_rfl) (pc h1 pn) cn
 ·rw [show m91 a = true by simp only [m91, h1, cond_true, cond_false]]
  exact co Tryz.func91 (by kernel_rfl) (show runF TP 99 Tryz.f91 [(VM a)] [] [] [rg [1] [1], .reg [.bit true] [] [2] []] = some ⟨.ret (tB true), [], [], [_]⟩ by kernel_rfl) (pc h1 pn) cn
def m92 (a : V) : Bool :=
 bif (a.k == (4 : Int)) then
  bif (decide ((((V.rows a.l).length : Nat) : Int) ≥ (2 : Int))) then
   bif (m77 (a.l[0]?.getD default)) then
    (m77 (a.l[1]?.getD default))
   else
    false
  else
   false
 else
  false
theorem f92_ok (a : V) : CallOk TP 92 [(VM a)] [] (.ret (tB (m92 a))) [] := by
 cases h1 : (a.k == (4 : Int))
 ·rw [show m92 a = false by simp only [m92, h1, cond_true, cond_false]]
  exact co Tryz.func92 (by kernel_rfl) (show runF TP 99 Tryz.f92 [(VM a)] [] [] [rg [1] [1], .reg [.bit false, .bit false, .bit false] [] [2] []] = some ⟨.ret (tB false), [], [], [_, false = false, false = false]⟩ by kernel_rfl) (pc h1 (pc rfl (pc rfl pn))) cn
 ·cases h2 : (decide ((((V.rows a.l).length : Nat) : Int) ≥ (2 : Int)))
  ·rw [show m92 a = false by simp only [m92, h1, h2, cond_true, cond_false]]
   exact co Tryz.func92 (by kernel_rfl) (show runF TP 99 Tryz.f92 [(VM a)] [] [] [rg [1] [1], .reg [.bit true, .bit false, .bit false] [] [2] []] = some ⟨.ret (tB false), [], [], [_, _, false = false]⟩ by kernel_rfl) (pc h1 (pc h2 (pc rfl pn))) cn
  ·cases h3 : (m77 (a.l[0]?.getD default))
   ·rw [show m92 a = false by simp only [m92, h1, h2, h3, cond_true, cond_false]]
    exact co Tryz.func92 (by kernel_rfl) (show runF TP 99 Tryz.f92 [(VM a)] [] [] [rg [1] [1], .reg [.bit true, .bit true, .cellsT (VC (a.l[0]?.getD default)), (rr (tB (m77 (a.l[0]?.getD default)))), .bit false] [] [2] []] = some ⟨.ret (tB false), [], _, [_, _, (0 : Int) ≤ 0, (V.rows a.l)[(0 : Int).toNat]? = some (VC (a.l[0]?.getD default)), _]⟩ by kernel_rfl) (pc h1 (pc h2 (pc (by decide) (pc (V.rows_pick  (i := 0) (by simp only [V.rows_length, bne_eq_false_iff_eq, bne_iff_ne, beq_iff_eq, beq_eq_false_iff_ne, decide_eq_true_eq, decide_eq_false_iff_not, ne_eq] at h2; omega)) (pc h3 pn))))) (cc (f77_ok (a.l[0]?.getD default)) cn)
   ·rw [show m92 a = (m77 (a.l[1]?.getD default)) by simp only [m92, h1, h2, h3, cond_true, cond_false]]
    exact co Tryz.func92 (by kernel_rfl) (show runF TP 99 Tryz.f92 [(VM a)] [] [] [rg [1] [1], .reg [.bit true, .bit true, .cellsT (VC (a.l[0]?.getD default)), (rr (tB (m77 (a.l[0]?.getD default)))), .bit true, .cellsT (VC (a.l[1]?.getD default)), (rr (tB (m77 (a.l[1]?.getD default))))] [] [2] []] = some ⟨.ret (tB (m77 (a.l[1]?.getD default))), [], _, [_, _, (0 : Int) ≤ 0, (V.rows a.l)[(0 : Int).toNat]? = some (VC (a.l[0]?.getD default)), _, (0 : Int) ≤ 1, (V.rows a.l)[(1 : Int).toNat]? = some (VC (a.l[1]?.getD default))]⟩ by kernel_rfl) (pc h1 (pc h2 (pc (by decide) (pc (V.rows_pick  (i := 0) (by simp only [V.rows_length, bne_eq_false_iff_eq, bne_iff_ne, beq_iff_eq, beq_eq_false_iff_ne, decide_eq_true_eq, decide_eq_false_iff_not, ne_eq] at h2; omega)) (pc h3 (pc (by decide) (pc (V.rows_pick  (i := 1) (by simp only [V.rows_length, bne_eq_false_iff_eq, bne_iff_ne, beq_iff_eq, beq_eq_false_iff_ne, decide_eq_true_eq, decide_eq_false_iff_not, ne_eq] at h2; omega)) pn))))))) (cc (f77_ok (a.l[0]?.getD default)) (cc (f77_ok (a.l[1]?.getD default)) cn))
def m65 (a : Int) (b : V) : Bool :=
 bif (a == (110 : Int)) then
  (m77 b)
 else
  bif (a == (35 : Int)) then
   (m91 b)
  else
   bif (a == (105 : Int)) then
    (b.k == (1 : Int))
   else
    bif (a == (115 : Int)) then
     (m92 b)
    else
     true
theorem f65_ok (a : Int) (b : V) : CallOk TP 65 [(.t (.s (.int .u8 a))), (VM b)] [] (.ret (tB (m65 a b))) [] := by
 cases h1 : (a == (110 : Int))
 ·cases h2 : (a == (35 : Int))
  ·cases h3 : (a == (105 : Int))
   ·cases h4 : (a == (115 : Int))
    ·rw [show m65 a b = true by simp only [m65, h1, h2, h3, h4, cond_true, cond_false]]
     exact co Tryz.func65 (by kernel_rfl) (show runF TP 99 Tryz.f65 [(.t (.s (.int .u8 a))), (VM b)] [] [] [rg [0, 3] [3], rg [3, 5] [3], rg [3, 5, 6] [3], b0 [3, 5] [3], rg [3, 5, 10] [3], b0 [3, 5] [3], rg [3, 5, 14] [3], b0 [3, 5] [3], rg [3, 19] [3], b0 [] [], rg [4] []] = some ⟨.ret (tB true), [], [], [_, _, _, _]⟩ by kernel_rfl) (pc h1 (pc h2 (pc h3 (pc h4 pn)))) cn
    ·rw [show m65 a b = (m92 b) by simp only [m65, h1, h2, h3, h4, cond_true, cond_false]]
     exact co Tryz.func65 (by kernel_rfl) (show runF TP 99 Tryz.f65 [(.t (.s (.int .u8 a))), (VM b)] [] [] [rg [0, 3] [3], rg [3, 5] [3], rg [3, 5, 6] [3], b0 [3, 5] [3], rg [3, 5, 10] [3], b0 [3, 5] [3], rg [3, 5, 14] [3], b0 [3, 5] [3], rg [3, 19] [3], b1 [3] [3], .reg [(rr (tB (m92 b)))] [] [4] []] = some ⟨.ret (tB (m92 b)), [], _, [_, _, _, _]⟩ by kernel_rfl) (pc h1 (pc h2 (pc h3 (pc h4 pn)))) (cc (f92_ok b) cn)
   ·rw [show m65 a b = (b.k == (1 : Int)) by simp only [m65, h1, h2, h3, cond_true, cond_false]]
    exact co Tryz.func65 (by kernel_rfl) (show runF TP 99 Tryz.f65 [(.t (.s (.int .u8 a))), (VM b)] [] [] [rg [0, 3] [3], rg [3, 5] [3], rg [3, 5, 6] [3], b0 [3, 5] [3], rg [3, 5, 10] [3], b0 [3, 5] [3], rg [3, 5, 14] [3], b1 [3] [3], rg [4] []] = some ⟨.ret (tB (b.k == (1 : Int))), [], [], [_, _, _]⟩ by kernel_rfl) (pc h1 (pc h2 (pc h3 pn))) cn
  ·rw [show m65 a b = (m91 b) by simp only [m65, h1, h2, cond_true, cond_false]]
   exact co Tryz.func65 (by kernel_rfl) (show runF TP 99 Tryz.f65 [(.t (.s (.int .u8 a))), (VM b)] [] [] [rg [0, 3] [3], rg [3, 5] [3], rg [3, 5, 6] [3], b0 [3, 5] [3], rg [3, 5, 10] [3], b1 [3] [3], .reg [(rr (tB (m91 b)))] [] [4] []] = some ⟨.ret (tB (m91 b)), [], _, [_, _]⟩ by kernel_rfl) (pc h1 (pc h2 pn)) (cc (f91_ok b) cn)
 ·rw [show m65 a b = (m77 b) by simp only [m65, h1, cond_true, cond_false]]
  exact co Tryz.func65 (by kernel_rfl) (show runF TP 99 Tryz.f65 [(.t (.s (.int .u8 a))), (VM b)] [] [] [rg [0, 3] [3], rg [3, 5] [3], rg [3, 5, 6] [3], b1 [3] [3], .reg [(rr (tB (m77 b)))] [] [4] []] = some ⟨.ret (tB (m77 b)), [], _, [_]⟩ by kernel_rfl) (pc h1 pn) (cc (f77_ok b) cn)
def m73 (a : V) : Bool :=
 bif (a.k == (1 : Int)) then
  true
 else
  bif (a.k == (2 : Int)) then
   (fo (fa FloatKind.f64.format.sub a.f a.f) (some 0) == some .eq)
  else
   false
theorem f73_ok (a : V) : CallOk TP 73 [(VM a)] [] (.ret (tB (m73 a))) [] := by
 cases h1 : (a.k == (1 : Int))
 ·cases h2 : (a.k == (2 : Int))
  ·rw [show m73 a = false by simp only [m73, h1, h2, cond_true, cond_false]]
   exact co Tryz.func73 (by kernel_rfl) (show runF TP 99 Tryz.f73 [(VM a)] [] [] [rg [1] [1], .reg [.bit false, .bit false] [] [2] []] = some ⟨.ret (tB false), [], [], [_, _]⟩ by kernel_rfl) (pc h1 (pc h2 pn)) cn
  ·rw [show m73 a = (fo (fa FloatKind.f64.format.sub a.f a.f) (some 0) == some .eq) by simp only [m73, h1, h2, cond_true, cond_false]]
   exact co Tryz.func73 (by kernel_rfl) (show runF TP 99 Tryz.f73 [(VM a)] [] [] [rg [1] [1], .reg [.bit false, .bit true] [] [2] []] = some ⟨.ret (tB (fo (fa FloatKind.f64.format.sub a.f a.f) (some 0) == some .eq)), [], [], [_, _]⟩ by kernel_rfl) (pc h1 (pc h2 pn)) cn
 ·rw [show m73 a = true by simp only [m73, h1, cond_true, cond_false]]
  exact co Tryz.func73 (by kernel_rfl) (show runF TP 99 Tryz.f73 [(VM a)] [] [] [rg [1] [1], .reg [.bit true] [] [2] []] = some ⟨.ret (tB true), [], [], [_]⟩ by kernel_rfl) (pc h1 pn) cn
theorem fin_some {x : V} (hk : (x.k != (2 : Int)) = false) (h : m73 x = true) : x.f.isSome = true := by
 have hk2 : x.k = 2 := by simpa using hk
 unfold m73 at h
 cases e : x.f with
 | some b => rfl
 | none => simp [hk2, e, fa, fo] at h
theorem len2 {x : V} (h : ((((V.rows x.l).length : Nat) : Int) != (2 : Int)) = false) : x.l.length = 2 := by
 have h := bne_eq_false_iff_eq.1 h
 rw [V.rows_length] at h
 omega
def m95 (a : V) : Int :=
 bif (a.k == (1 : Int)) then
  bif (decide (a.i < (0 : Int))) then
   (-1)
  else
   bif (a.k == (2 : Int)) then
    bif (fo a.f (some 0) == some .lt) then
     (-1)
    else
     bif (decide (a.i > (0 : Int))) then
      1
     else
      bif (fo a.f (some 0) == some .gt) then
       1
      else
       0
   else
    bif (decide (a.i > (0 : Int))) then
     1
    else
     0
 else
  bif (a.k == (2 : Int)) then
   bif (fo a.f (some 0) == some .lt) then
    (-1)
   else
    bif (fo a.f (some 0) == some .gt) then
     1
    else
     0
  else
   0
theorem f95_ok (a : V) : CallOk TP 95 [(VM a)] [] (.ret (tI (m95 a))) [] := by
 cases h1 : (a.k == (1 : Int))
 ·cases h2 : (a.k == (2 : Int))
  ·rw [show m95 a = 0 by simp only [m95, h1, h2, cond_true, cond_false]]
   exact co Tryz.func95 (by kernel_rfl) (show runF TP 99 Tryz.f95 [(VM a)] [] [] [rg [1] [1], .reg [.bit false, .bit false, .bit false] [] [1, 3] [1], b0 [1] [1], .reg [.bit false, .bit false, .bit false] [] [22] [], b0 [] [], rg [2] []] = some ⟨.ret (tI 0), [], [], [_, false = false, _, false = false, _, false = false, _, false = false]⟩ by kernel_rfl) (pc h1 (pc rfl (pc h2 (pc rfl (pc h1 (pc rfl (pc h2 (pc rfl pn)))))))) cn
  ·cases h3 : (fo a.f (some 0) == some .lt)
   ·cases h4 : (fo a.f (some 0) == some .gt)
    ·rw [show m95 a = 0 by simp only [m95, h1, h2, h3, h4, cond_true, cond_false]]
     exact co Tryz.func95 (by kernel_rfl) (show runF TP 99 Tryz.f95 [(VM a)] [] [] [rg [1] [1], .reg [.bit false, .bit false, .bit true] [] [1, 3] [1], b0 [1] [1], .reg [.bit false, .bit false, .bit true] [] [22] [], b0 [] [], rg [2] []] = some ⟨.ret (tI 0), [], [], [_, false = false, _, _, _, false = false, _, _]⟩ by kernel_rfl) (pc h1 (pc rfl (pc h2 (pc h3 (pc h1 (pc rfl (pc h2 (pc h4 pn)))))))) cn
    ·rw [show m95 a = 1 by simp only [m95, h1, h2, h3, h4, cond_true, cond_false]]
     exact co Tryz.func95 (by kernel_rfl) (show runF TP 99 Tryz.f95 [(VM a)] [] [] [rg [1] [1], .reg [.bit false, .bit false, .bit true] [] [1, 3] [1], b0 [1] [1], .reg [.bit false, .bit false, .bit true] [] [22] [], b1 [] [], rg [2] []] = some ⟨.ret (tI 1), [], [], [_, false = false, _, _, _, false = false, _, _]⟩ by kernel_rfl) (pc h1 (pc rfl (pc h2 (pc h3 (pc h1 (pc rfl (pc h2 (pc h4 pn)))))))) cn
   ·rw [show m95 a = (-1) by simp only [m95, h1, h2, h3, cond_true, cond_false]]
    exact co Tryz.func95 (by kernel_rfl) (show runF TP 99 Tryz.f95 [(VM a)] [] [] [rg [1] [1], .reg [.bit false, .bit false, .bit true] [] [1, 3] [1], b1 [] [], rg [2] []] = some ⟨.ret (tI (-1)), [], [], [_, false = false, _, _]⟩ by kernel_rfl) (pc h1 (pc rfl (pc h2 (pc h3 pn)))) cn
 ·cases h2 : (decide (a.i < (0 : Int)))
  ·cases h3 : (a.k == (2 : Int))
   ·cases h4 : (decide (a.i > (0 : Int)))
    ·rw [show m95 a = 0 by simp only [m95, h1, h2, h3, h4, cond_true, cond_false]]
     exact co Tryz.func95 (by kernel_rfl) (show runF TP 99 Tryz.f95 [(VM a)] [] [] [rg [1] [1], .reg [.bit true, .bit false, .bit false] [] [1, 3] [1], b0 [1] [1], .reg [.bit true, .bit false, .bit false] [] [22] [], b0 [] [], rg [2] []] = some ⟨.ret (tI 0), [], [], [_, _, _, false = false, _, _, _, false = false]⟩ by kernel_rfl) (pc h1 (pc h2 (pc h3 (pc rfl (pc h1 (pc h4 (pc h3 (pc rfl pn)))))))) cn
    ·rw [show m95 a = 1 by simp only [m95, h1, h2, h3, h4, cond_true, cond_false]]
     exact co Tryz.func95 (by kernel_rfl) (show runF TP 99 Tryz.f95 [(VM a)] [] [] [rg [1] [1], .reg [.bit true, .bit false, .bit false] [] [1, 3] [1], b0 [1] [1], .reg [.bit true, .bit true] [] [22] [], b1 [] [], rg [2] []] = some ⟨.ret (tI 1), [], [], [_, _, _, false = false, _, _, true = true]⟩ by kernel_rfl) (pc h1 (pc h2 (pc h3 (pc rfl (pc h1 (pc h4 (pc rfl pn))))))) cn
   ·cases h4 : (fo a.f (some 0) == some .lt)
    ·cases h5 : (decide (a.i > (0 : Int)))
     ·cases h6 : (fo a.f (some 0) == some .gt)
      ·rw [show m95 a = 0 by simp only [m95, h1, h2, h3, h4, h5, h6, cond_true, cond_false]]
       exact co Tryz.func95 (by kernel_rfl) (show runF TP 99 Tryz.f95 [(VM a)] [] [] [rg [1] [1], .reg [.bit true, .bit false, .bit true] [] [1, 3] [1], b0 [1] [1], .reg [.bit true, .bit false, .bit true] [] [22] [], b0 [] [], rg [2] []] = some ⟨.ret (tI 0), [], [], [_, _, _, _, _, _, _, _]⟩ by kernel_rfl) (pc h1 (pc h2 (pc h3 (pc h4 (pc h1 (pc h5 (pc h3 (pc h6 pn)))))))) cn
      ·rw [show m95 a = 1 by simp only [m95, h1, h2, h3, h4, h5, h6, cond_true, cond_false]]
       exact co Tryz.func95 (by kernel_rfl) (show runF TP 99 Tryz.f95 [(VM a)] [] [] [rg [1] [1], .reg [.bit true, .bit false, .bit true] [] [1, 3] [1], b0 [1] [1], .reg [.bit true, .bit false, .bit true] [] [22] [], b1 [] [], rg [2] []] = some ⟨.ret (tI 1), [], [], [_, _, _, _, _, _, _, _]⟩ by kernel_rfl) (pc h1 (pc h2 (pc h3 (pc h4 (pc h1 (pc h5 (pc h3 (pc h6 pn)))))))) cn
     ·rw [show m95 a = 1 by simp only [m95, h1, h2, h3, h4, h5, cond_true, cond_false]]
      exact co Tryz.func95 (by kernel_rfl) (show runF TP 99 Tryz.f95 [(VM a)] [] [] [rg [1] [1], .reg [.bit true, .bit false, .bit true] [] [1, 3] [1], b0 [1] [1], .reg [.bit true, .bit true] [] [22] [], b1 [] [], rg [2] []] = some ⟨.ret (tI 1), [], [], [_, _, _, _, _, _, true = true]⟩ by kernel_rfl) (pc h1 (pc h2 (pc h3 (pc h4 (pc h1 (pc h5 (pc rfl pn))))))) cn
    ·rw [show m95 a = (-1) by simp only [m95, h1, h2, h3, h4, cond_true, cond_false]]
     exact co Tryz.func95 (by kernel_rfl) (show runF TP 99 Tryz.f95 [(VM a)] [] [] [rg [1] [1], .reg [.bit true, .bit false, .bit true] [] [1, 3] [1], b1 [] [], rg [2] []] = some ⟨.ret (tI (-1)), [], [], [_, _, _, _]⟩ by kernel_rfl) (pc h1 (pc h2 (pc h3 (pc h4 pn)))) cn
  ·rw [show m95 a = (-1) by simp only [m95, h1, h2, cond_true, cond_false]]
   exact co Tryz.func95 (by kernel_rfl) (show runF TP 99 Tryz.f95 [(VM a)] [] [] [rg [1] [1], .reg [.bit true, .bit true] [] [1, 3] [1], b1 [] [], rg [2] []] = some ⟨.ret (tI (-1)), [], [], [_, _, true = true]⟩ by kernel_rfl) (pc h1 (pc h2 (pc rfl pn))) cn
def m22 (a : V) : (Option Nat) :=
 bif (a.k == (1 : Int)) then
  (some (FloatKind.f64.nearest a.i))
 else
  a.f
theorem f22_ok (a : V) : CallOk TP 22 [(VM a)] [] (.ret (tF (m22 a))) [] := by
 cases h1 : (a.k == (1 : Int))
 ·rw [show m22 a = a.f by simp only [m22, h1, cond_true, cond_false]]
  exact co Tryz.func22 (by kernel_rfl) (show runF TP 99 Tryz.f22 [(VM a)] [] [] [rg [1] [1], rg [1, 5] [1], b0 [1] [1], rg [2] []] = some ⟨.ret (tF a.f), [], [], [_]⟩ by kernel_rfl) (pc h1 pn) cn
 ·rw [show m22 a = (some (FloatKind.f64.nearest a.i)) by simp only [m22, h1, cond_true, cond_false]]
  exact co Tryz.func22 (by kernel_rfl) (show runF TP 99 Tryz.f22 [(VM a)] [] [] [rg [1] [1], rg [1, 5] [1], b1 [1] [1], rg [2] []] = some ⟨.ret (tF (some (FloatKind.f64.nearest a.i))), [], [], [_]⟩ by kernel_rfl) (pc h1 pn) cn
def m72 (a : V) : (Option Nat) × Bool :=
 bif (m73 a) then
  bif (decide ((m95 a) ≤ (0 : Int))) then
   ((some 0), false)
  else
   ((m22 a), true)
 else
  ((some 0), false)
theorem f72_ok (a : V) : CallOk TP 72 [(VM a)] [] (.ret (.tup [(tF (m72 a).1), (tB (m72 a).2)])) [] := by
 cases h1 : (m73 a)
 ·rw [show m72 a = ((some 0), false) by simp only [m72, h1, cond_true, cond_false]]
  exact co Tryz.func72 (by kernel_rfl) (show runF TP 99 Tryz.f72 [(VM a)] [] [] [rg [1] [1], .reg [(rr (tB (m73 a))), .bit true] [] [1, 11] [1], b1 [] [], rg [2, 3] []] = some ⟨.ret (.tup [(tF (some 0)), (tB false)]), [], _, [_, true = true]⟩ by kernel_rfl) (pc (not_tt h1) (pc rfl pn)) (cc (f73_ok a) cn)
 ·cases h2 : (decide ((m95 a) ≤ (0 : Int)))
  ·rw [show m72 a = ((m22 a), true) by simp only [m72, h1, h2, cond_true, cond_false]]
   exact co Tryz.func72 (by kernel_rfl) (show runF TP 99 Tryz.f72 [(VM a)] [] [] [rg [1] [1], .reg [(rr (tB (m73 a))), .bit false, (rr (tI (m95 a)))] [] [1, 11] [1], b0 [1] [1], .reg [(rr (tF (m22 a)))] [] [2, 3] []] = some ⟨.ret (.tup [(tF (m22 a)), (tB true)]), [], _, [_, _]⟩ by kernel_rfl) (pc (not_ff h1) (pc h2 pn)) (cc (f73_ok a) (cc (f95_ok a) (cc (f22_ok a) cn)))
  ·rw [show m72 a = ((some 0), false) by simp only [m72, h1, h2, cond_true, cond_false]]
   exact co Tryz.func72 (by kernel_rfl) (show runF TP 99 Tryz.f72 [(VM a)] [] [] [rg [1] [1], .reg [(rr (tB (m73 a))), .bit false, (rr (tI (m95 a)))] [] [1, 11] [1], b1 [] [], rg [2, 3] []] = some ⟨.ret (.tup [(tF (some 0)), (tB false)]), [], _, [_, _]⟩ by kernel_rfl) (pc (not_ff h1) (pc h2 pn)) (cc (f73_ok a) (cc (f95_ok a) cn))
def m81 (a : ByteArray) : (List QArgsMethod) :=
 bif (a.toList == (ByteArray.mk #[99, 111, 117, 110, 116, 101, 114]).toList) then
  [(QArgsMethod.mk (ByteArray.mk #[97, 100, 100]) (ByteArray.mk #[102]) true), (QArgsMethod.mk (ByteArray.mk #[99, 111, 117, 110, 116]) bE false), (QArgsMethod.mk (ByteArray.mk #[114, 101, 115, 101, 116]) bE true), (QArgsMethod.mk (ByteArray.mk #[116, 111, 116, 97, 108]) bE false)]
 else
  bif (a.toList == (ByteArray.mk #[108, 101, 100, 103, 101, 114]).toList) then
   [(QArgsMethod.mk (ByteArray.mk #[98, 97, 108, 97, 110, 99, 101]) (ByteArray.mk #[110]) false), (QArgsMethod.mk (ByteArray.mk #[99, 108, 111, 115, 101]) (ByteArray.mk #[110]) true), (QArgsMethod.mk (ByteArray.mk #[100, 101, 112, 111, 115, 105, 116]) (ByteArray.mk #[110, 102]) true), (QArgsMethod.mk (ByteArray.mk #[110, 97, 109, 101, 115]) bE false), (QArgsMethod.mk (ByteArray.mk #[111, 112, 101, 110]) (ByteArray.mk #[110]) true), (QArgsMethod.mk (ByteArray.mk #[116, 111, 116, 97, 108]) bE false), (QArgsMethod.mk (ByteArray.mk #[116, 114, 97, 110, 115, 102, 101, 114]) (ByteArray.mk #[110, 110, 102]) true)]
  else
   bif (a.toList == (ByteArray.mk #[111, 114, 99, 104]).toList) then
    [(QArgsMethod.mk (ByteArray.mk #[102, 97, 105, 108]) bE true), (QArgsMethod.mk (ByteArray.mk #[114, 117, 110]) (ByteArray.mk #[115]) true), (QArgsMethod.mk (ByteArray.mk #[114, 117, 110, 115]) bE false)]
   else
    bif (a.toList == (ByteArray.mk #[113, 117, 101, 117, 101]).toList) then
     [(QArgsMethod.mk (ByteArray.mk #[108, 101, 110]) bE false), (QArgsMethod.mk (ByteArray.mk #[110, 116, 104]) (ByteArray.mk #[105]) false), (QArgsMethod.mk (ByteArray.mk #[112, 101, 101, 107]) bE false), (QArgsMethod.mk (ByteArray.mk #[112, 111, 112]) bE true), (QArgsMethod.mk (ByteArray.mk #[112, 117, 115, 104]) (ByteArray.mk #[118]) true)]
    else
     bif (a.toList == (ByteArray.mk #[114, 101, 103, 105, 115, 116, 101, 114]).toList) then
      [(QArgsMethod.mk (ByteArray.mk #[99, 97, 115]) (ByteArray.mk #[118, 118]) true), (QArgsMethod.mk (ByteArray.mk #[103, 101, 116]) bE false), (QArgsMethod.mk (ByteArray.mk #[115, 101, 116]) (ByteArray.mk #[118]) true)]
     else
      bif (a.toList == (ByteArray.mk #[116, 97, 98, 108, 101]).toList) then
       [(QArgsMethod.mk (ByteArray.mk #[100, 101, 108]) (ByteArray.mk #[110]) true), (QArgsMethod.mk (ByteArray.mk #[103, 101, 116]) (ByteArray.mk #[110]) false), (QArgsMethod.mk (ByteArray.mk #[107, 101, 121, 115]) bE false), (QArgsMethod.mk (ByteArray.mk #[112, 117, 116]) (ByteArray.mk #[110, 118]) true), (QArgsMethod.mk (ByteArray.mk #[115, 105, 122, 101]) bE false)]
      else
       []
theorem f81_ok (a : ByteArray) : CallOk TP 81 [(tS a)] [] (.ret (tL (QArgsMethod.rows (m81 a)))) [] := by
 cases h1 : (a.toList == (ByteArray.mk #[99, 111, 117, 110, 116, 101, 114]).toList)
 ·cases h2 : (a.toList == (ByteArray.mk #[108, 101, 100, 103, 101, 114]).toList)
  ·cases h3 : (a.toList == (ByteArray.mk #[111, 114, 99, 104]).toList)
   ·cases h4 : (a.toList == (ByteArray.mk #[113, 117, 101, 117, 101]).toList)
    ·cases h5 : (a.toList == (ByteArray.mk #[114, 101, 103, 105, 115, 116, 101, 114]).toList)
     ·cases h6 : (a.toList == (ByteArray.mk #[116, 97, 98, 108, 101]).toList)
      ·rw [show m81 a = [] by simp only [m81, h1, h2, h3, h4, h5, h6, cond_true, cond_false]]
       exact co Tryz.func81 (by kernel_rfl) (show runF TP 99 Tryz.f81 [(tS a)] [] [] [rg [0] [], rg [3] [], rg [3, 4] [], b0 [3] [], rg [3, 11] [], b0 [3] [], rg [3, 21] [], b0 [3] [], rg [3, 27] [], b0 [3] [], rg [3, 35] [], b0 [3] [], rg [41] [], b0 [] [], rg [2] []] = some ⟨.ret (tL []), [], [], [_, _, _, _, _, _]⟩ by kernel_rfl) (pc h1 (pc h2 (pc h3 (pc h4 (pc h5 (pc h6 pn)))))) cn
      ·rw [show m81 a = [(QArgsMethod.mk (ByteArray.mk #[100, 101, 108]) (ByteArray.mk #[110]) true), (QArgsMethod.mk (ByteArray.mk #[103, 101, 116]) (ByteArray.mk #[110]) false), (QArgsMethod.mk (ByteArray.mk #[107, 101, 121, 115]) bE false), (QArgsMethod.mk (ByteArray.mk #[112, 117, 116]) (ByteArray.mk #[110, 118]) true), (QArgsMethod.mk (ByteArray.mk #[115, 105, 122, 101]) bE false)] by simp only [m81, h1, h2, h3, h4, h5, h6, cond_true, cond_false]]
       exact co Tryz.func81 (by kernel_rfl) (show runF TP 99 Tryz.f81 [(tS a)] [] [] [rg [0] [], rg [3] [], rg [3, 4] [], b0 [3] [], rg [3, 11] [], b0 [3] [], rg [3, 21] [], b0 [3] [], rg [3, 27] [], b0 [3] [], rg [3, 35] [], b0 [3] [], rg [41] [], b1 [] [], rg [2] []] = some ⟨.ret (tL [[(sS (ByteArray.mk #[100, 101, 108])), (sS (ByteArray.mk #[110])), (sB true)], [(sS (ByteArray.mk #[103, 101, 116])), (sS (ByteArray.mk #[110])), (sB false)], [(sS (ByteArray.mk #[107, 101, 121, 115])), (sS bE), (sB false)], [(sS (ByteArray.mk #[112, 117, 116])), (sS (ByteArray.mk #[110, 118])), (sB true)], [(sS (ByteArray.mk #[115, 105, 122, 101])), (sS bE), (sB false)]]), [], [], [_, _, _, _, _, _]⟩ by kernel_rfl) (pc h1 (pc h2 (pc h3 (pc h4 (pc h5 (pc h6 pn)))))) cn
     ·rw [show m81 a = [(QArgsMethod.mk (ByteArray.mk #[99, 97, 115]) (ByteArray.mk #[118, 118]) true), (QArgsMethod.mk (ByteArray.mk #[103, 101, 116]) bE false), (QArgsMethod.mk (ByteArray.mk #[115, 101, 116]) (ByteArray.mk #[118]) true)] by simp only [m81, h1, h2, h3, h4, h5, cond_true, cond_false]]
      exact co Tryz.func81 (by kernel_rfl) (show runF TP 99 Tryz.f81 [(tS a)] [] [] [rg [0] [], rg [3] [], rg [3, 4] [], b0 [3] [], rg [3, 11] [], b0 [3] [], rg [3, 21] [], b0 [3] [], rg [3, 27] [], b0 [3] [], rg [3, 35] [], b1 [] [], rg [2] []] = some ⟨.ret (tL [[(sS (ByteArray.mk #[99, 97, 115])), (sS (ByteArray.mk #[118, 118])), (sB true)], [(sS (ByteArray.mk #[103, 101, 116])), (sS bE), (sB false)], [(sS (ByteArray.mk #[115, 101, 116])), (sS (ByteArray.mk #[118])), (sB true)]]), [], [], [_, _, _, _, _]⟩ by kernel_rfl) (pc h1 (pc h2 (pc h3 (pc h4 (pc h5 pn))))) cn
    ·rw [show m81 a = [(QArgsMethod.mk (ByteArray.mk #[108, 101, 110]) bE false), (QArgsMethod.mk (ByteArray.mk #[110, 116, 104]) (ByteArray.mk #[105]) false), (QArgsMethod.mk (ByteArray.mk #[112, 101, 101, 107]) bE false), (QArgsMethod.mk (ByteArray.mk #[112, 111, 112]) bE true), (QArgsMethod.mk (ByteArray.mk #[112, 117, 115, 104]) (ByteArray.mk #[118]) true)] by simp only [m81, h1, h2, h3, h4, cond_true, cond_false]]
     exact co Tryz.func81 (by kernel_rfl) (show runF TP 99 Tryz.f81 [(tS a)] [] [] [rg [0] [], rg [3] [], rg [3, 4] [], b0 [3] [], rg [3, 11] [], b0 [3] [], rg [3, 21] [], b0 [3] [], rg [3, 27] [], b1 [] [], rg [2] []] = some ⟨.ret (tL [[(sS (ByteArray.mk #[108, 101, 110])), (sS bE), (sB false)], [(sS (ByteArray.mk #[110, 116, 104])), (sS (ByteArray.mk #[105])), (sB false)], [(sS (ByteArray.mk #[112, 101, 101, 107])), (sS bE), (sB false)], [(sS (ByteArray.mk #[112, 111, 112])), (sS bE), (sB true)], [(sS (ByteArray.mk #[112, 117, 115, 104])), (sS (ByteArray.mk #[118])), (sB true)]]), [], [], [_, _, _, _]⟩ by kernel_rfl) (pc h1 (pc h2 (pc h3 (pc h4 pn)))) cn
   ·rw [show m81 a = [(QArgsMethod.mk (ByteArray.mk #[102, 97, 105, 108]) bE true), (QArgsMethod.mk (ByteArray.mk #[114, 117, 110]) (ByteArray.mk #[115]) true), (QArgsMethod.mk (ByteArray.mk #[114, 117, 110, 115]) bE false)] by simp only [m81, h1, h2, h3, cond_true, cond_false]]
    exact co Tryz.func81 (by kernel_rfl) (show runF TP 99 Tryz.f81 [(tS a)] [] [] [rg [0] [], rg [3] [], rg [3, 4] [], b0 [3] [], rg [3, 11] [], b0 [3] [], rg [3, 21] [], b1 [] [], rg [2] []] = some ⟨.ret (tL [[(sS (ByteArray.mk #[102, 97, 105, 108])), (sS bE), (sB true)], [(sS (ByteArray.mk #[114, 117, 110])), (sS (ByteArray.mk #[115])), (sB true)], [(sS (ByteArray.mk #[114, 117, 110, 115])), (sS bE), (sB false)]]), [], [], [_, _, _]⟩ by kernel_rfl) (pc h1 (pc h2 (pc h3 pn))) cn
  ·rw [show m81 a = [(QArgsMethod.mk (ByteArray.mk #[98, 97, 108, 97, 110, 99, 101]) (ByteArray.mk #[110]) false), (QArgsMethod.mk (ByteArray.mk #[99, 108, 111, 115, 101]) (ByteArray.mk #[110]) true), (QArgsMethod.mk (ByteArray.mk #[100, 101, 112, 111, 115, 105, 116]) (ByteArray.mk #[110, 102]) true), (QArgsMethod.mk (ByteArray.mk #[110, 97, 109, 101, 115]) bE false), (QArgsMethod.mk (ByteArray.mk #[111, 112, 101, 110]) (ByteArray.mk #[110]) true), (QArgsMethod.mk (ByteArray.mk #[116, 111, 116, 97, 108]) bE false), (QArgsMethod.mk (ByteArray.mk #[116, 114, 97, 110, 115, 102, 101, 114]) (ByteArray.mk #[110, 110, 102]) true)] by simp only [m81, h1, h2, cond_true, cond_false]]
   exact co Tryz.func81 (by kernel_rfl) (show runF TP 99 Tryz.f81 [(tS a)] [] [] [rg [0] [], rg [3] [], rg [3, 4] [], b0 [3] [], rg [3, 11] [], b1 [] [], rg [2] []] = some ⟨.ret (tL [[(sS (ByteArray.mk #[98, 97, 108, 97, 110, 99, 101])), (sS (ByteArray.mk #[110])), (sB false)], [(sS (ByteArray.mk #[99, 108, 111, 115, 101])), (sS (ByteArray.mk #[110])), (sB true)], [(sS (ByteArray.mk #[100, 101, 112, 111, 115, 105, 116])), (sS (ByteArray.mk #[110, 102])), (sB true)], [(sS (ByteArray.mk #[110, 97, 109, 101, 115])), (sS bE), (sB false)], [(sS (ByteArray.mk #[111, 112, 101, 110])), (sS (ByteArray.mk #[110])), (sB true)], [(sS (ByteArray.mk #[116, 111, 116, 97, 108])), (sS bE), (sB false)], [(sS (ByteArray.mk #[116, 114, 97, 110, 115, 102, 101, 114])), (sS (ByteArray.mk #[110, 110, 102])), (sB true)]]), [], [], [_, _]⟩ by kernel_rfl) (pc h1 (pc h2 pn)) cn
 ·rw [show m81 a = [(QArgsMethod.mk (ByteArray.mk #[97, 100, 100]) (ByteArray.mk #[102]) true), (QArgsMethod.mk (ByteArray.mk #[99, 111, 117, 110, 116]) bE false), (QArgsMethod.mk (ByteArray.mk #[114, 101, 115, 101, 116]) bE true), (QArgsMethod.mk (ByteArray.mk #[116, 111, 116, 97, 108]) bE false)] by simp only [m81, h1, cond_true, cond_false]]
  exact co Tryz.func81 (by kernel_rfl) (show runF TP 99 Tryz.f81 [(tS a)] [] [] [rg [0] [], rg [3] [], rg [3, 4] [], b1 [] [], rg [2] []] = some ⟨.ret (tL [[(sS (ByteArray.mk #[97, 100, 100])), (sS (ByteArray.mk #[102])), (sB true)], [(sS (ByteArray.mk #[99, 111, 117, 110, 116])), (sS bE), (sB false)], [(sS (ByteArray.mk #[114, 101, 115, 101, 116])), (sS bE), (sB true)], [(sS (ByteArray.mk #[116, 111, 116, 97, 108])), (sS bE), (sB false)]]), [], [], [_]⟩ by kernel_rfl) (pc h1 pn) cn
def m49_b0 (a : ByteArray) (b : ByteArray) (x : QArgsMethod) (i : Nat) (s : Unit) : Rd (QArgsMethod × Bool) (Unit) :=
 bif (x.name.toList == b.toList) then
  .ret (x, true)
 else
  .next ()
def m49 (a : ByteArray) (b : ByteArray) : QArgsMethod × Bool :=
 match (lp (m49_b0 a b) (m81 a) 0 ()) with
 | .inl q1 => (
  (q1.1, q1.2))
 | .inr q1 => (
  ((QArgsMethod.mk bE bE false), false))
theorem f49_ok (a : ByteArray) (b : ByteArray) : CallOk TP 49 [(tS a), (tS b)] [] (.ret (.tup [(.agg [(tS ((m49 a b).1).name), (tS ((m49 a b).1).takes), (tB ((m49 a b).1).writes)]), (tB (m49 a b).2)])) [] := by
 refine CallOk.short fun hsh => ?_
 have hlen : (m81 a).length ≤ 274877906944 := (by simp only [m81, cond_eq_ite]; (repeat' split) <;> simp)
 have hl1 : W TP (bodyAt Tryz.f49 [1, 0, 1, 0]) ⟨22, [(1, (tS b)), (4, (.ptr 4 0)), (9, (tL (QArgsMethod.rows (m81 a)))), (10, (tI (((QArgsMethod.rows (m81 a)).length : Nat) : Int))), (11, (tI 0))], [(4, .os [(tS bE), (tS bE), (tB false)])]⟩ (lpPost (fun (i : Nat) (s : Unit) => (⟨22, [(4, (.ptr 4 0))], [(4, .os [(tS bE), (tS bE), (tB false)])]⟩ : St)) (fun (r : QArgsMethod × Bool) => (⟨22, [(4, (.ptr 4 0)), (5, (tB r.2))], [(4, .os [(tS r.1.name), (tS r.1.takes), (tB r.1.writes)])]⟩ : St)) (.exit 0) (lp (m49_b0 a b) (m81 a) 0 ())) := by
  refine lp1_W (e := (.exit 0)) (c := bodyAt Tryz.f49 [1, 0, 1, 0, 0]) (m81 a) (fun (i : Nat) (s : Unit) => (⟨22, [(1, (tS b)), (4, (.ptr 4 0)), (9, (tL (QArgsMethod.rows (m81 a)))), (10, (tI (((QArgsMethod.rows (m81 a)).length : Nat) : Int))), (11, (tI ((i : Nat) : Int)))], [(4, .os [(tS bE), (tS bE), (tB false)])]⟩ : St)) (fun (i : Nat) (s : Unit) => (⟨22, [(4, (.ptr 4 0))], [(4, .os [(tS bE), (tS bE), (tB false)])]⟩ : St)) (fun (r : QArgsMethod × Bool) => (⟨22, [(4, (.ptr 4 0)), (5, (tB r.2))], [(4, .os [(tS r.1.name), (tS r.1.takes), (tB r.1.writes)])]⟩ : St)) (m49_b0 a b) (fun (i : Nat) (s : Unit) => (True : Prop)) () trivial (by kernel_rfl) (by simp) ?_ ?_
  ·intro s hI
   exact wo (show run TP 99 (bodyAt Tryz.f49 [1, 0, 1, 0, 0]) ⟨22, [(1, (tS b)), (4, (.ptr 4 0)), (9, (tL (QArgsMethod.rows (m81 a)))), (10, (tI (((QArgsMethod.rows (m81 a)).length : Nat) : Int))), (11, (tI (((m81 a).length : Nat) : Int)))], [(4, .os [(tS bE), (tS bE), (tB false)])]⟩ [rg [1, 4, 9, 10, 11, 12] [4], b0 [4] [4]] = some ⟨(.exit 0), ⟨22, [(4, (.ptr 4 0))], [(4, .os [(tS bE), (tS bE), (tB false)])]⟩, [], [], [(decide ((((m81 a).length : Nat) : Int) < (((QArgsMethod.rows (m81 a)).length : Nat) : Int))) = false]⟩ by kernel_rfl) (pc (lt_ff (QArgsMethod.rows_length _)) pn) cn
  ·intro i x s hx hi hI
   cases g2 : (x.name.toList == b.toList)
   ·have hb : (m49_b0 a b) x i s = .next () := by simp only [m49_b0, g2, cond_true, cond_false]
    rw [hb]
    have hr := wo (show run TP 99 (bodyAt Tryz.f49 [1, 0, 1, 0, 0]) ⟨22, [(1, (tS b)), (4, (.ptr 4 0)), (9, (tL (QArgsMethod.rows (m81 a)))), (10, (tI (((QArgsMethod.rows (m81 a)).length : Nat) : Int))), (11, (tI ((i : Nat) : Int)))], [(4, .os [(tS bE), (tS bE), (tB false)])]⟩ [rg [1, 4, 9, 10, 11, 12] [4], b1 [1, 4, 9, 10, 11] [4], .reg [.cellsT [(sS x.name), (sS x.takes), (sB x.writes)]] [] [1, 4, 7, 9, 10, 11] [4, 7], rg [1, 4, 7, 9, 10, 11, 18] [4, 7], b0 [1, 4, 9, 10, 11] [4], rg [1, 4, 9, 10, 11] [4]] = some ⟨.normal, ⟨22, [(1, (tS b)), (4, (.ptr 4 0)), (9, (tL (QArgsMethod.rows (m81 a)))), (10, (tI (((QArgsMethod.rows (m81 a)).length : Nat) : Int))), (11, (tI (IntKind.i64.wrap (((i : Nat) : Int) + 1))))], [(4, .os [(tS bE), (tS bE), (tB false)])]⟩, [], [], [(decide (((i : Nat) : Int) < (((QArgsMethod.rows (m81 a)).length : Nat) : Int))) = true, (0 : Int) ≤ ((i : Nat) : Int), (QArgsMethod.rows (m81 a))[(((i : Nat) : Int) : Int).toNat]? = some [(sS x.name), (sS x.takes), (sB x.writes)], _]⟩ by kernel_rfl) (pc (lt_tt hi (QArgsMethod.rows_length _)) (pc (Int.natCast_nonneg _) (pc (QArgsMethod.rows_at hx) (pc g2 pn)))) cn
    rw [wrap_succ hi hlen] at hr
    exact ⟨hr, fun _ _ => trivial⟩
   ·have hb : (m49_b0 a b) x i s = .ret (x, true) := by simp only [m49_b0, g2, cond_true, cond_false]
    rw [hb]
    have hr := wo (show run TP 99 (bodyAt Tryz.f49 [1, 0, 1, 0, 0]) ⟨22, [(1, (tS b)), (4, (.ptr 4 0)), (9, (tL (QArgsMethod.rows (m81 a)))), (10, (tI (((QArgsMethod.rows (m81 a)).length : Nat) : Int))), (11, (tI ((i : Nat) : Int)))], [(4, .os [(tS bE), (tS bE), (tB false)])]⟩ [rg [1, 4, 9, 10, 11, 12] [4], b1 [1, 4, 9, 10, 11] [4], .reg [.cellsT [(sS x.name), (sS x.takes), (sB x.writes)]] [] [1, 4, 7, 9, 10, 11] [4, 7], rg [1, 4, 7, 9, 10, 11, 18] [4, 7], b1 [4, 7] [4, 7], rg [4, 5] [4]] = some ⟨.ret, ⟨22, [(4, (.ptr 4 0)), (5, (tB true))], [(4, .os [(tS x.name), (tS x.takes), (tB x.writes)])]⟩, [], [], [(decide (((i : Nat) : Int) < (((QArgsMethod.rows (m81 a)).length : Nat) : Int))) = true, (0 : Int) ≤ ((i : Nat) : Int), (QArgsMethod.rows (m81 a))[(((i : Nat) : Int) : Int).toNat]? = some [(sS x.name), (sS x.takes), (sB x.writes)], _]⟩ by kernel_rfl) (pc (lt_tt hi (QArgsMethod.rows_length _)) (pc (Int.natCast_nonneg _) (pc (QArgsMethod.rows_at hx) (pc g2 pn)))) cn
    exact ⟨hr, fun _ _ => trivial⟩
 cases h1 : (lp (m49_b0 a b) (m81 a) 0 ()) with
 | inl q1 => 
  rw [show m49 a b = (q1.1, q1.2) by simp only [m49, h1, cond_true, cond_false]]
  rw [h1] at hl1
  exact co Tryz.func49 (by kernel_rfl) (show runF TP 99 Tryz.f49 [(tS a), (tS b)] [] [] [rg [0, 1, 4] [4], .reg [(rr (tL (QArgsMethod.rows (m81 a))))] [] [1, 4, 9, 10, 11] [4], .cut .ret ⟨22, [(4, (.ptr 4 0)), (5, (tB q1.2))], [(4, .os [(tS q1.1.name), (tS q1.1.takes), (tB q1.1.writes)])]⟩] = some ⟨.ret (.tup [(.agg [(tS q1.1.name), (tS q1.1.takes), (tB q1.1.writes)]), (tB q1.2)]), [], _, [_]⟩ by kernel_rfl) (pc hl1 pn) (cc (f81_ok a) cn)
 | inr q1 => 
  rw [show m49 a b = ((QArgsMethod.mk bE bE false), false) by simp only [m49, h1, cond_true, cond_false]]
  rw [h1] at hl1
  exact co Tryz.func49 (by kernel_rfl) (show runF TP 99 Tryz.f49 [(tS a), (tS b)] [] [] [rg [0, 1, 4] [4], .reg [(rr (tL (QArgsMethod.rows (m81 a))))] [] [1, 4, 9, 10, 11] [4], .cut (.exit 0) ⟨22, [(4, (.ptr 4 0))], [(4, .os [(tS bE), (tS bE), (tB false)])]⟩, rg [4, 5] [4]] = some ⟨.ret (.tup [(.agg [(tS bE), (tS bE), (tB false)]), (tB false)]), [], _, [_]⟩ by kernel_rfl) (pc hl1 pn) (cc (f81_ok a) cn)
def m48 (a : ByteArray) : (List QChoirref8Method) :=
 bif (a.toList == (ByteArray.mk #[99, 111, 117, 110, 116, 101, 114]).toList) then
  [(QChoirref8Method.mk (ByteArray.mk #[97, 100, 100]) (ByteArray.mk #[35]) true), (QChoirref8Method.mk (ByteArray.mk #[99, 111, 117, 110, 116]) bE false), (QChoirref8Method.mk (ByteArray.mk #[114, 101, 115, 101, 116]) bE true), (QChoirref8Method.mk (ByteArray.mk #[116, 111, 116, 97, 108]) bE false)]
 else
  bif (a.toList == (ByteArray.mk #[108, 101, 100, 103, 101, 114]).toList) then
   [(QChoirref8Method.mk (ByteArray.mk #[98, 97, 108, 97, 110, 99, 101]) (ByteArray.mk #[110]) false), (QChoirref8Method.mk (ByteArray.mk #[99, 108, 111, 115, 101]) (ByteArray.mk #[110]) true), (QChoirref8Method.mk (ByteArray.mk #[100, 101, 112, 111, 115, 105, 116]) (ByteArray.mk #[110, 35]) true), (QChoirref8Method.mk (ByteArray.mk #[110, 97, 109, 101, 115]) bE false), (QChoirref8Method.mk (ByteArray.mk #[111, 112, 101, 110]) (ByteArray.mk #[110]) true), (QChoirref8Method.mk (ByteArray.mk #[116, 111, 116, 97, 108]) bE false), (QChoirref8Method.mk (ByteArray.mk #[116, 114, 97, 110, 115, 102, 101, 114]) (ByteArray.mk #[110, 110, 35]) true)]
  else
   bif (a.toList == (ByteArray.mk #[111, 114, 99, 104]).toList) then
    [(QChoirref8Method.mk (ByteArray.mk #[102, 97, 105, 108]) bE true), (QChoirref8Method.mk (ByteArray.mk #[114, 117, 110]) (ByteArray.mk #[115]) true), (QChoirref8Method.mk (ByteArray.mk #[114, 117, 110, 115]) bE false)]
   else
    bif (a.toList == (ByteArray.mk #[113, 117, 101, 117, 101]).toList) then
     [(QChoirref8Method.mk (ByteArray.mk #[108, 101, 110]) bE false), (QChoirref8Method.mk (ByteArray.mk #[110, 116, 104]) (ByteArray.mk #[105]) false), (QChoirref8Method.mk (ByteArray.mk #[112, 101, 101, 107]) bE false), (QChoirref8Method.mk (ByteArray.mk #[112, 111, 112]) bE true), (QChoirref8Method.mk (ByteArray.mk #[112, 117, 115, 104]) (ByteArray.mk #[118]) true)]
    else
     bif (a.toList == (ByteArray.mk #[114, 101, 103, 105, 115, 116, 101, 114]).toList) then
      [(QChoirref8Method.mk (ByteArray.mk #[99, 97, 115]) (ByteArray.mk #[118, 118]) true), (QChoirref8Method.mk (ByteArray.mk #[103, 101, 116]) bE false), (QChoirref8Method.mk (ByteArray.mk #[115, 101, 116]) (ByteArray.mk #[118]) true)]
     else
      bif (a.toList == (ByteArray.mk #[116, 97, 98, 108, 101]).toList) then
       [(QChoirref8Method.mk (ByteArray.mk #[100, 101, 108]) (ByteArray.mk #[110]) true), (QChoirref8Method.mk (ByteArray.mk #[103, 101, 116]) (ByteArray.mk #[110]) false), (QChoirref8Method.mk (ByteArray.mk #[107, 101, 121, 115]) bE false), (QChoirref8Method.mk (ByteArray.mk #[112, 117, 116]) (ByteArray.mk #[110, 118]) true), (QChoirref8Method.mk (ByteArray.mk #[115, 105, 122, 101]) bE false)]
      else
       []
theorem f48_ok (a : ByteArray) : CallOk TP 48 [(tS a)] [] (.ret (tL (QChoirref8Method.rows (m48 a)))) [] := by
 cases h1 : (a.toList == (ByteArray.mk #[99, 111, 117, 110, 116, 101, 114]).toList)
 ·cases h2 : (a.toList == (ByteArray.mk #[108, 101, 100, 103, 101, 114]).toList)
  ·cases h3 : (a.toList == (ByteArray.mk #[111, 114, 99, 104]).toList)
   ·cases h4 : (a.toList == (ByteArray.mk #[113, 117, 101, 117, 101]).toList)
    ·cases h5 : (a.toList == (ByteArray.mk #[114, 101, 103, 105, 115, 116, 101, 114]).toList)
     ·cases h6 : (a.toList == (ByteArray.mk #[116, 97, 98, 108, 101]).toList)
      ·rw [show m48 a = [] by simp only [m48, h1, h2, h3, h4, h5, h6, cond_true, cond_false]]
       exact co Tryz.func48 (by kernel_rfl) (show runF TP 99 Tryz.f48 [(tS a)] [] [] [rg [0] [], rg [3] [], rg [3, 4] [], b0 [3] [], rg [3, 11] [], b0 [3] [], rg [3, 21] [], b0 [3] [], rg [3, 27] [], b0 [3] [], rg [3, 35] [], b0 [3] [], rg [41] [], b0 [] [], rg [2] []] = some ⟨.ret (tL []), [], [], [_, _, _, _, _, _]⟩ by kernel_rfl) (pc h1 (pc h2 (pc h3 (pc h4 (pc h5 (pc h6 pn)))))) cn
      ·rw [show m48 a = [(QChoirref8Method.mk (ByteArray.mk #[100, 101, 108]) (ByteArray.mk #[110]) true), (QChoirref8Method.mk (ByteArray.mk #[103, 101, 116]) (ByteArray.mk #[110]) false), (QChoirref8Method.mk (ByteArray.mk #[107, 101, 121, 115]) bE false), (QChoirref8Method.mk (ByteArray.mk #[112, 117, 116]) (ByteArray.mk #[110, 118]) true), (QChoirref8Method.mk (ByteArray.mk #[115, 105, 122, 101]) bE false)] by simp only [m48, h1, h2, h3, h4, h5, h6, cond_true, cond_false]]
       exact co Tryz.func48 (by kernel_rfl) (show runF TP 99 Tryz.f48 [(tS a)] [] [] [rg [0] [], rg [3] [], rg [3, 4] [], b0 [3] [], rg [3, 11] [], b0 [3] [], rg [3, 21] [], b0 [3] [], rg [3, 27] [], b0 [3] [], rg [3, 35] [], b0 [3] [], rg [41] [], b1 [] [], rg [2] []] = some ⟨.ret (tL [[(sS (ByteArray.mk #[100, 101, 108])), (sS (ByteArray.mk #[110])), (sB true)], [(sS (ByteArray.mk #[103, 101, 116])), (sS (ByteArray.mk #[110])), (sB false)], [(sS (ByteArray.mk #[107, 101, 121, 115])), (sS bE), (sB false)], [(sS (ByteArray.mk #[112, 117, 116])), (sS (ByteArray.mk #[110, 118])), (sB true)], [(sS (ByteArray.mk #[115, 105, 122, 101])), (sS bE), (sB false)]]), [], [], [_, _, _, _, _, _]⟩ by kernel_rfl) (pc h1 (pc h2 (pc h3 (pc h4 (pc h5 (pc h6 pn)))))) cn
     ·rw [show m48 a = [(QChoirref8Method.mk (ByteArray.mk #[99, 97, 115]) (ByteArray.mk #[118, 118]) true), (QChoirref8Method.mk (ByteArray.mk #[103, 101, 116]) bE false), (QChoirref8Method.mk (ByteArray.mk #[115, 101, 116]) (ByteArray.mk #[118]) true)] by simp only [m48, h1, h2, h3, h4, h5, cond_true, cond_false]]
      exact co Tryz.func48 (by kernel_rfl) (show runF TP 99 Tryz.f48 [(tS a)] [] [] [rg [0] [], rg [3] [], rg [3, 4] [], b0 [3] [], rg [3, 11] [], b0 [3] [], rg [3, 21] [], b0 [3] [], rg [3, 27] [], b0 [3] [], rg [3, 35] [], b1 [] [], rg [2] []] = some ⟨.ret (tL [[(sS (ByteArray.mk #[99, 97, 115])), (sS (ByteArray.mk #[118, 118])), (sB true)], [(sS (ByteArray.mk #[103, 101, 116])), (sS bE), (sB false)], [(sS (ByteArray.mk #[115, 101, 116])), (sS (ByteArray.mk #[118])), (sB true)]]), [], [], [_, _, _, _, _]⟩ by kernel_rfl) (pc h1 (pc h2 (pc h3 (pc h4 (pc h5 pn))))) cn
    ·rw [show m48 a = [(QChoirref8Method.mk (ByteArray.mk #[108, 101, 110]) bE false), (QChoirref8Method.mk (ByteArray.mk #[110, 116, 104]) (ByteArray.mk #[105]) false), (QChoirref8Method.mk (ByteArray.mk #[112, 101, 101, 107]) bE false), (QChoirref8Method.mk (ByteArray.mk #[112, 111, 112]) bE true), (QChoirref8Method.mk (ByteArray.mk #[112, 117, 115, 104]) (ByteArray.mk #[118]) true)] by simp only [m48, h1, h2, h3, h4, cond_true, cond_false]]
     exact co Tryz.func48 (by kernel_rfl) (show runF TP 99 Tryz.f48 [(tS a)] [] [] [rg [0] [], rg [3] [], rg [3, 4] [], b0 [3] [], rg [3, 11] [], b0 [3] [], rg [3, 21] [], b0 [3] [], rg [3, 27] [], b1 [] [], rg [2] []] = some ⟨.ret (tL [[(sS (ByteArray.mk #[108, 101, 110])), (sS bE), (sB false)], [(sS (ByteArray.mk #[110, 116, 104])), (sS (ByteArray.mk #[105])), (sB false)], [(sS (ByteArray.mk #[112, 101, 101, 107])), (sS bE), (sB false)], [(sS (ByteArray.mk #[112, 111, 112])), (sS bE), (sB true)], [(sS (ByteArray.mk #[112, 117, 115, 104])), (sS (ByteArray.mk #[118])), (sB true)]]), [], [], [_, _, _, _]⟩ by kernel_rfl) (pc h1 (pc h2 (pc h3 (pc h4 pn)))) cn
   ·rw [show m48 a = [(QChoirref8Method.mk (ByteArray.mk #[102, 97, 105, 108]) bE true), (QChoirref8Method.mk (ByteArray.mk #[114, 117, 110]) (ByteArray.mk #[115]) true), (QChoirref8Method.mk (ByteArray.mk #[114, 117, 110, 115]) bE false)] by simp only [m48, h1, h2, h3, cond_true, cond_false]]
    exact co Tryz.func48 (by kernel_rfl) (show runF TP 99 Tryz.f48 [(tS a)] [] [] [rg [0] [], rg [3] [], rg [3, 4] [], b0 [3] [], rg [3, 11] [], b0 [3] [], rg [3, 21] [], b1 [] [], rg [2] []] = some ⟨.ret (tL [[(sS (ByteArray.mk #[102, 97, 105, 108])), (sS bE), (sB true)], [(sS (ByteArray.mk #[114, 117, 110])), (sS (ByteArray.mk #[115])), (sB true)], [(sS (ByteArray.mk #[114, 117, 110, 115])), (sS bE), (sB false)]]), [], [], [_, _, _]⟩ by kernel_rfl) (pc h1 (pc h2 (pc h3 pn))) cn
  ·rw [show m48 a = [(QChoirref8Method.mk (ByteArray.mk #[98, 97, 108, 97, 110, 99, 101]) (ByteArray.mk #[110]) false), (QChoirref8Method.mk (ByteArray.mk #[99, 108, 111, 115, 101]) (ByteArray.mk #[110]) true), (QChoirref8Method.mk (ByteArray.mk #[100, 101, 112, 111, 115, 105, 116]) (ByteArray.mk #[110, 35]) true), (QChoirref8Method.mk (ByteArray.mk #[110, 97, 109, 101, 115]) bE false), (QChoirref8Method.mk (ByteArray.mk #[111, 112, 101, 110]) (ByteArray.mk #[110]) true), (QChoirref8Method.mk (ByteArray.mk #[116, 111, 116, 97, 108]) bE false), (QChoirref8Method.mk (ByteArray.mk #[116, 114, 97, 110, 115, 102, 101, 114]) (ByteArray.mk #[110, 110, 35]) true)] by simp only [m48, h1, h2, cond_true, cond_false]]
   exact co Tryz.func48 (by kernel_rfl) (show runF TP 99 Tryz.f48 [(tS a)] [] [] [rg [0] [], rg [3] [], rg [3, 4] [], b0 [3] [], rg [3, 11] [], b1 [] [], rg [2] []] = some ⟨.ret (tL [[(sS (ByteArray.mk #[98, 97, 108, 97, 110, 99, 101])), (sS (ByteArray.mk #[110])), (sB false)], [(sS (ByteArray.mk #[99, 108, 111, 115, 101])), (sS (ByteArray.mk #[110])), (sB true)], [(sS (ByteArray.mk #[100, 101, 112, 111, 115, 105, 116])), (sS (ByteArray.mk #[110, 35])), (sB true)], [(sS (ByteArray.mk #[110, 97, 109, 101, 115])), (sS bE), (sB false)], [(sS (ByteArray.mk #[111, 112, 101, 110])), (sS (ByteArray.mk #[110])), (sB true)], [(sS (ByteArray.mk #[116, 111, 116, 97, 108])), (sS bE), (sB false)], [(sS (ByteArray.mk #[116, 114, 97, 110, 115, 102, 101, 114])), (sS (ByteArray.mk #[110, 110, 35])), (sB true)]]), [], [], [_, _]⟩ by kernel_rfl) (pc h1 (pc h2 pn)) cn
 ·rw [show m48 a = [(QChoirref8Method.mk (ByteArray.mk #[97, 100, 100]) (ByteArray.mk #[35]) true), (QChoirref8Method.mk (ByteArray.mk #[99, 111, 117, 110, 116]) bE false), (QChoirref8Method.mk (ByteArray.mk #[114, 101, 115, 101, 116]) bE true), (QChoirref8Method.mk (ByteArray.mk #[116, 111, 116, 97, 108]) bE false)] by simp only [m48, h1, cond_true, cond_false]]
  exact co Tryz.func48 (by kernel_rfl) (show runF TP 99 Tryz.f48 [(tS a)] [] [] [rg [0] [], rg [3] [], rg [3, 4] [], b1 [] [], rg [2] []] = some ⟨.ret (tL [[(sS (ByteArray.mk #[97, 100, 100])), (sS (ByteArray.mk #[35])), (sB true)], [(sS (ByteArray.mk #[99, 111, 117, 110, 116])), (sS bE), (sB false)], [(sS (ByteArray.mk #[114, 101, 115, 101, 116])), (sS bE), (sB true)], [(sS (ByteArray.mk #[116, 111, 116, 97, 108])), (sS bE), (sB false)]]), [], [], [_]⟩ by kernel_rfl) (pc h1 pn) cn
def m64_b0 (a : ByteArray) (b : ByteArray) (x : QChoirref8Method) (i : Nat) (s : Unit) : Rd (QChoirref8Method × Bool) (Unit) :=
 bif (x.name.toList == b.toList) then
  .ret (x, true)
 else
  .next ()
def m64 (a : ByteArray) (b : ByteArray) : QChoirref8Method × Bool :=
 match (lp (m64_b0 a b) (m48 a) 0 ()) with
 | .inl q1 => (
  (q1.1, q1.2))
 | .inr q1 => (
  ((QChoirref8Method.mk bE bE false), false))
theorem f64_ok (a : ByteArray) (b : ByteArray) : CallOk TP 64 [(tS a), (tS b)] [] (.ret (.tup [(.agg [(tS ((m64 a b).1).name), (tS ((m64 a b).1).takes), (tB ((m64 a b).1).writes)]), (tB (m64 a b).2)])) [] := by
 refine CallOk.short fun hsh => ?_
 have hlen : (m48 a).length ≤ 274877906944 := (by simp only [m48, cond_eq_ite]; (repeat' split) <;> simp)
 have hl1 : W TP (bodyAt Tryz.f64 [1, 1, 0, 1, 0]) ⟨28, [(1, (tS b)), (4, (.ptr 4 0)), (6, (tL (QChoirref8Method.rows (m48 a)))), (7, (tI 0))], [(4, .os [(tS bE), (tS bE), (tB false)])]⟩ (lpPost (fun (i : Nat) (s : Unit) => (⟨28, [(4, (.ptr 4 0))], [(4, .os [(tS bE), (tS bE), (tB false)])]⟩ : St)) (fun (r : QChoirref8Method × Bool) => (⟨28, [(4, (.ptr 4 0)), (5, (tB r.2))], [(4, .os [(tS r.1.name), (tS r.1.takes), (tB r.1.writes)])]⟩ : St)) (.exit 0) (lp (m64_b0 a b) (m48 a) 0 ())) := by
  refine lp1_W (e := (.exit 0)) (c := bodyAt Tryz.f64 [1, 1, 0, 1, 0, 0]) (m48 a) (fun (i : Nat) (s : Unit) => (⟨28, [(1, (tS b)), (4, (.ptr 4 0)), (6, (tL (QChoirref8Method.rows (m48 a)))), (7, (tI ((i : Nat) : Int)))], [(4, .os [(tS bE), (tS bE), (tB false)])]⟩ : St)) (fun (i : Nat) (s : Unit) => (⟨28, [(4, (.ptr 4 0))], [(4, .os [(tS bE), (tS bE), (tB false)])]⟩ : St)) (fun (r : QChoirref8Method × Bool) => (⟨28, [(4, (.ptr 4 0)), (5, (tB r.2))], [(4, .os [(tS r.1.name), (tS r.1.takes), (tB r.1.writes)])]⟩ : St)) (m64_b0 a b) (fun (i : Nat) (s : Unit) => (True : Prop)) () trivial (by kernel_rfl) (by simp) ?_ ?_
  ·intro s hI
   exact wo (show run TP 99 (bodyAt Tryz.f64 [1, 1, 0, 1, 0, 0]) ⟨28, [(1, (tS b)), (4, (.ptr 4 0)), (6, (tL (QChoirref8Method.rows (m48 a)))), (7, (tI (((m48 a).length : Nat) : Int)))], [(4, .os [(tS bE), (tS bE), (tB false)])]⟩ [rg [1, 4, 6, 7, 13] [4], b0 [4] [4]] = some ⟨(.exit 0), ⟨28, [(4, (.ptr 4 0))], [(4, .os [(tS bE), (tS bE), (tB false)])]⟩, [], [], [(decide ((((m48 a).length : Nat) : Int) < (((QChoirref8Method.rows (m48 a)).length : Nat) : Int))) = false]⟩ by kernel_rfl) (pc (lt_ff (QChoirref8Method.rows_length _)) pn) cn
  ·intro i x s hx hi hI
   cases g2 : (x.name.toList == b.toList)
   ·have hb : (m64_b0 a b) x i s = .next () := by simp only [m64_b0, g2, cond_true, cond_false]
    rw [hb]
    have hr := wo (show run TP 99 (bodyAt Tryz.f64 [1, 1, 0, 1, 0, 0]) ⟨28, [(1, (tS b)), (4, (.ptr 4 0)), (6, (tL (QChoirref8Method.rows (m48 a)))), (7, (tI ((i : Nat) : Int)))], [(4, .os [(tS bE), (tS bE), (tB false)])]⟩ [rg [1, 4, 6, 7, 13] [4], b1 [1, 4, 6, 7] [4], .reg [.cellsT [(sS x.name), (sS x.takes), (sB x.writes)]] [] [1, 4, 6, 7, 22] [4], b0 [1, 4, 6, 7] [4], rg [1, 4, 6, 7] [4]] = some ⟨.normal, ⟨28, [(1, (tS b)), (4, (.ptr 4 0)), (6, (tL (QChoirref8Method.rows (m48 a)))), (7, (tI (IntKind.i64.wrap (((i : Nat) : Int) + 1))))], [(4, .os [(tS bE), (tS bE), (tB false)])]⟩, [], [], [(decide (((i : Nat) : Int) < (((QChoirref8Method.rows (m48 a)).length : Nat) : Int))) = true, (0 : Int) ≤ ((i : Nat) : Int), (QChoirref8Method.rows (m48 a))[(((i : Nat) : Int) : Int).toNat]? = some [(sS x.name), (sS x.takes), (sB x.writes)], _]⟩ by kernel_rfl) (pc (lt_tt hi (QChoirref8Method.rows_length _)) (pc (Int.natCast_nonneg _) (pc (QChoirref8Method.rows_at hx) (pc g2 pn)))) cn
    rw [wrap_succ hi hlen] at hr
    exact ⟨hr, fun _ _ => trivial⟩
   ·have hb : (m64_b0 a b) x i s = .ret (x, true) := by simp only [m64_b0, g2, cond_true, cond_false]
    rw [hb]
    have hr := wo (show run TP 99 (bodyAt Tryz.f64 [1, 1, 0, 1, 0, 0]) ⟨28, [(1, (tS b)), (4, (.ptr 4 0)), (6, (tL (QChoirref8Method.rows (m48 a)))), (7, (tI ((i : Nat) : Int)))], [(4, .os [(tS bE), (tS bE), (tB false)])]⟩ [rg [1, 4, 6, 7, 13] [4], b1 [1, 4, 6, 7] [4], .reg [.cellsT [(sS x.name), (sS x.takes), (sB x.writes)]] [] [1, 4, 6, 7, 22] [4], b1 [4, 6, 7] [4], .reg [.cellsT [(sS x.name), (sS x.takes), (sB x.writes)]] [] [4, 5] [4]] = some ⟨.ret, ⟨28, [(4, (.ptr 4 0)), (5, (tB true))], [(4, .os [(tS x.name), (tS x.takes), (tB x.writes)])]⟩, [], [], [(decide (((i : Nat) : Int) < (((QChoirref8Method.rows (m48 a)).length : Nat) : Int))) = true, (0 : Int) ≤ ((i : Nat) : Int), (QChoirref8Method.rows (m48 a))[(((i : Nat) : Int) : Int).toNat]? = some [(sS x.name), (sS x.takes), (sB x.writes)], _, (0 : Int) ≤ ((i : Nat) : Int), (QChoirref8Method.rows (m48 a))[(((i : Nat) : Int) : Int).toNat]? = some [(sS x.name), (sS x.takes), (sB x.writes)]]⟩ by kernel_rfl) (pc (lt_tt hi (QChoirref8Method.rows_length _)) (pc (Int.natCast_nonneg _) (pc (QChoirref8Method.rows_at hx) (pc g2 (pc (Int.natCast_nonneg _) (pc (QChoirref8Method.rows_at hx) pn)))))) cn
    exact ⟨hr, fun _ _ => trivial⟩
 cases h1 : (lp (m64_b0 a b) (m48 a) 0 ()) with
 | inl q1 => 
  rw [show m64 a b = (q1.1, q1.2) by simp only [m64, h1, cond_true, cond_false]]
  rw [h1] at hl1
  exact co Tryz.func64 (by kernel_rfl) (show runF TP 99 Tryz.f64 [(tS a), (tS b)] [] [] [rg [0, 1, 4] [4], .reg [(rr (tL (QChoirref8Method.rows (m48 a))))] [] [1, 4, 6] [4], rg [1, 4, 6, 7] [4], .cut .ret ⟨28, [(4, (.ptr 4 0)), (5, (tB q1.2))], [(4, .os [(tS q1.1.name), (tS q1.1.takes), (tB q1.1.writes)])]⟩] = some ⟨.ret (.tup [(.agg [(tS q1.1.name), (tS q1.1.takes), (tB q1.1.writes)]), (tB q1.2)]), [], _, [_]⟩ by kernel_rfl) (pc hl1 pn) (cc (f48_ok a) cn)
 | inr q1 => 
  rw [show m64 a b = ((QChoirref8Method.mk bE bE false), false) by simp only [m64, h1, cond_true, cond_false]]
  rw [h1] at hl1
  exact co Tryz.func64 (by kernel_rfl) (show runF TP 99 Tryz.f64 [(tS a), (tS b)] [] [] [rg [0, 1, 4] [4], .reg [(rr (tL (QChoirref8Method.rows (m48 a))))] [] [1, 4, 6] [4], rg [1, 4, 6, 7] [4], .cut (.exit 0) ⟨28, [(4, (.ptr 4 0))], [(4, .os [(tS bE), (tS bE), (tB false)])]⟩, rg [4, 5] [4]] = some ⟨.ret (.tup [(.agg [(tS bE), (tS bE), (tB false)]), (tB false)]), [], _, [_]⟩ by kernel_rfl) (pc hl1 pn) (cc (f48_ok a) cn)
def m115 (a : V) : Bool :=
 bif (a.k == (1 : Int)) then
  true
 else
  (a.k == (2 : Int))
theorem f115_ok (a : V) : CallOk TP 115 [(VM a)] [] (.ret (tB (m115 a))) [] := by
 cases h1 : (a.k == (1 : Int))
 ·rw [show m115 a = (a.k == (2 : Int)) by simp only [m115, h1, cond_true, cond_false]]
  exact co Tryz.func115 (by kernel_rfl) (show runF TP 99 Tryz.f115 [(VM a)] [] [] [rg [1] [1], .reg [.bit false] [] [2] []] = some ⟨.ret (tB (a.k == (2 : Int))), [], [], [_]⟩ by kernel_rfl) (pc h1 pn) cn
 ·rw [show m115 a = true by simp only [m115, h1, cond_true, cond_false]]
  exact co Tryz.func115 (by kernel_rfl) (show runF TP 99 Tryz.f115 [(VM a)] [] [] [rg [1] [1], .reg [.bit true] [] [2] []] = some ⟨.ret (tB true), [], [], [_]⟩ by kernel_rfl) (pc h1 pn) cn
def m116 (a : V) : (Option Nat) :=
 bif (a.k == (1 : Int)) then
  (some (FloatKind.f64.nearest a.i))
 else
  a.f
theorem f116_ok (a : V) : CallOk TP 116 [(VM a)] [] (.ret (tF (m116 a))) [] := by
 cases h1 : (a.k == (1 : Int))
 ·rw [show m116 a = a.f by simp only [m116, h1, cond_true, cond_false]]
  exact co Tryz.func116 (by kernel_rfl) (show runF TP 99 Tryz.f116 [(VM a)] [] [] [rg [1] [1], rg [1, 5] [1], b0 [1] [1], rg [2] []] = some ⟨.ret (tF a.f), [], [], [_]⟩ by kernel_rfl) (pc h1 pn) cn
 ·rw [show m116 a = (some (FloatKind.f64.nearest a.i)) by simp only [m116, h1, cond_true, cond_false]]
  exact co Tryz.func116 (by kernel_rfl) (show runF TP 99 Tryz.f116 [(VM a)] [] [] [rg [1] [1], rg [1, 5] [1], b1 [1] [1], rg [2] []] = some ⟨.ret (tF (some (FloatKind.f64.nearest a.i))), [], [], [_]⟩ by kernel_rfl) (pc h1 pn) cn
def m108 (a : (Option Nat)) (b : (Option Nat)) : (Option Nat) :=
 (fa FloatKind.f64.format.add a b)
theorem f108_ok (a : (Option Nat)) (b : (Option Nat)) : CallOk TP 108 [(tF a), (tF b)] [] (.ret (tF (m108 a b))) [] := by
 rw [show m108 a b = (fa FloatKind.f64.format.add a b) by simp only [m108]]
 exact co Tryz.func108 (by kernel_rfl) (show runF TP 99 Tryz.f108 [(tF a), (tF b)] [] [] [rg [0, 1] [], rg [4] []] = some ⟨.ret (tF (fa FloatKind.f64.format.add a b)), [], [], []⟩ by kernel_rfl) pn cn
def m107 (a : Int) (b : Int) : Int × Bool :=
 ((IntKind.i64.wrap (a + b)), ((decide ((IntKind.i64.wrap (a + b)) > a)) == (decide (b > (0 : Int)))))
theorem f107_ok (a : Int) (b : Int) : CallOk TP 107 [(tI a), (tI b)] [] (.ret (.tup [(tI (m107 a b).1), (tB (m107 a b).2)])) [] := by
 rw [show m107 a b = ((IntKind.i64.wrap (a + b)), ((decide ((IntKind.i64.wrap (a + b)) > a)) == (decide (b > (0 : Int))))) by simp only [m107]]
 exact co Tryz.func107 (by kernel_rfl) (show runF TP 99 Tryz.f107 [(tI a), (tI b)] [] [] [rg [0, 1] [], rg [0, 1, 6] [], rg [4, 5] []] = some ⟨.ret (.tup [(tI (IntKind.i64.wrap (a + b))), (tB ((decide ((IntKind.i64.wrap (a + b)) > a)) == (decide (b > (0 : Int)))))]), [], [], []⟩ by kernel_rfl) pn cn
def m106_107_108 (a : V) (b : V) : V × Int :=
 bif (m115 a) then
  bif (m115 b) then
   bif (a.k == (2 : Int)) then
    ((V.mk 2 0 (m53 (m108 (m116 a) (m116 b))) bE []), 0)
   else
    bif (b.k == (2 : Int)) then
     ((V.mk 2 0 (m53 (m108 (m116 a) (m116 b))) bE []), 0)
    else
     bif (m107 a.i b.i).2 then
      ((V.mk 1 ((m107 a.i b.i).1) (some 0) bE []), 0)
     else
      ((V.mk 0 0 (some 0) bE []), 35)
  else
   ((V.mk 0 0 (some 0) bE []), 31)
 else
  ((V.mk 0 0 (some 0) bE []), 31)
theorem f106_107_108_ok (a : V) (b : V) : CallOk TP 106 [(VM a), (VM b), (.clo 107 []), (.clo 108 [])] [] (.ret (.tup [(VM ((m106_107_108 a b).1)), (tI (m106_107_108 a b).2)])) [] := by
 cases h1 : (m115 a)
 ·rw [show m106_107_108 a b = ((V.mk 0 0 (some 0) bE []), 31) by simp only [m106_107_108, h1, cond_true, cond_false]]
  exact co Tryz.func106 (by kernel_rfl) (show runF TP 99 Tryz.f106 [(VM a), (VM b), (.clo 107 []), (.clo 108 [])] [] [] [rg [2, 3, 4, 5, 8] [4, 5, 8], .reg [(rr (tB (m115 a))), .bit true] [] [2, 3, 4, 5, 8, 12] [4, 5, 8], b1 [8] [8], rg [8, 9] [8]] = some ⟨.ret (.tup [(.agg [(tI 0), (tI 0), (tF (some 0)), (tS bE), (tL [])]), (tI 31)]), [], _, [_, true = true]⟩ by kernel_rfl) (pc (not_tt h1) (pc rfl pn)) (cc (f115_ok a) cn)
 ·cases h2 : (m115 b)
  ·rw [show m106_107_108 a b = ((V.mk 0 0 (some 0) bE []), 31) by simp only [m106_107_108, h1, h2, cond_true, cond_false]]
   exact co Tryz.func106 (by kernel_rfl) (show runF TP 99 Tryz.f106 [(VM a), (VM b), (.clo 107 []), (.clo 108 [])] [] [] [rg [2, 3, 4, 5, 8] [4, 5, 8], .reg [(rr (tB (m115 a))), .bit false, (rr (tB (m115 b)))] [] [2, 3, 4, 5, 8, 12] [4, 5, 8], b1 [8] [8], rg [8, 9] [8]] = some ⟨.ret (.tup [(.agg [(tI 0), (tI 0), (tF (some 0)), (tS bE), (tL [])]), (tI 31)]), [], _, [_, _]⟩ by kernel_rfl) (pc (not_ff h1) (pc (not_tt h2) pn)) (cc (f115_ok a) (cc (f115_ok b) cn))
  ·cases h3 : (a.k == (2 : Int))
   ·cases h4 : (b.k == (2 : Int))
    ·cases h5 : (m107 a.i b.i).2
     ·rw [show m106_107_108 a b = ((V.mk 0 0 (some 0) bE []), 35) by simp only [m106_107_108, h1, h2, h3, h4, h5, cond_true, cond_false]]
      exact co Tryz.func106 (by kernel_rfl) (show runF TP 99 Tryz.f106 [(VM a), (VM b), (.clo 107 []), (.clo 108 [])] [] [] [rg [2, 3, 4, 5, 8] [4, 5, 8], .reg [(rr (tB (m115 a))), .bit false, (rr (tB (m115 b)))] [] [2, 3, 4, 5, 8, 12] [4, 5, 8], b0 [2, 3, 4, 5, 8] [4, 5, 8], .reg [.bit false] [] [2, 3, 4, 5, 8, 22] [4, 5, 8], b0 [2, 4, 5, 8] [4, 5, 8], .reg [(rr (.tup [(tI (m107 a.i b.i).1), (tB (m107 a.i b.i).2)]))] [] [8, 10, 11] [8], rg [8, 10, 49] [8], b1 [8] [8], rg [8, 9] [8]] = some ⟨.ret (.tup [(.agg [(tI 0), (tI 0), (tF (some 0)), (tS bE), (tL [])]), (tI 35)]), [], _, [_, _, _, _, _]⟩ by kernel_rfl) (pc (not_ff h1) (pc (not_ff h2) (pc h3 (pc h4 (pc (not_tt h5) pn))))) (cc (f115_ok a) (cc (f115_ok b) (cc (f107_ok a.i b.i) cn)))
     ·rw [show m106_107_108 a b = ((V.mk 1 ((m107 a.i b.i).1) (some 0) bE []), 0) by simp only [m106_107_108, h1, h2, h3, h4, h5, cond_true, cond_false]]
      exact co Tryz.func106 (by kernel_rfl) (show runF TP 99 Tryz.f106 [(VM a), (VM b), (.clo 107 []), (.clo 108 [])] [] [] [rg [2, 3, 4, 5, 8] [4, 5, 8], .reg [(rr (tB (m115 a))), .bit false, (rr (tB (m115 b)))] [] [2, 3, 4, 5, 8, 12] [4, 5, 8], b0 [2, 3, 4, 5, 8] [4, 5, 8], .reg [.bit false] [] [2, 3, 4, 5, 8, 22] [4, 5, 8], b0 [2, 4, 5, 8] [4, 5, 8], .reg [(rr (.tup [(tI (m107 a.i b.i).1), (tB (m107 a.i b.i).2)]))] [] [8, 10, 11] [8], rg [8, 10, 49] [8], b0 [8, 10] [8], rg [8, 9] [8]] = some ⟨.ret (.tup [(.agg [(tI 1), (tI (m107 a.i b.i).1), (tF (some 0)), (tS bE), (tL [])]), (tI 0)]), [], _, [_, _, _, _, _]⟩ by kernel_rfl) (pc (not_ff h1) (pc (not_ff h2) (pc h3 (pc h4 (pc (not_ff h5) pn))))) (cc (f115_ok a) (cc (f115_ok b) (cc (f107_ok a.i b.i) cn)))
    ·rw [show m106_107_108 a b = ((V.mk 2 0 (m53 (m108 (m116 a) (m116 b))) bE []), 0) by simp only [m106_107_108, h1, h2, h3, h4, cond_true, cond_false]]
     exact co Tryz.func106 (by kernel_rfl) (show runF TP 99 Tryz.f106 [(VM a), (VM b), (.clo 107 []), (.clo 108 [])] [] [] [rg [2, 3, 4, 5, 8] [4, 5, 8], .reg [(rr (tB (m115 a))), .bit false, (rr (tB (m115 b)))] [] [2, 3, 4, 5, 8, 12] [4, 5, 8], b0 [2, 3, 4, 5, 8] [4, 5, 8], .reg [.bit false] [] [2, 3, 4, 5, 8, 22] [4, 5, 8], b1 [3, 4, 5, 8] [4, 5, 8], .drw [[], [], [(rr (tF (m116 a)))], [], [(rr (tF (m116 b)))], [(rr (tF (m108 (m116 a) (m116 b))))], [(rr (tF (m53 (m108 (m116 a) (m116 b)))))], [], [], []] [] [8, 9] [8]] = some ⟨.ret (.tup [(.agg [(tI 2), (tI 0), (tF (m53 (m108 (m116 a) (m116 b)))), (tS bE), (tL [])]), (tI 0)]), [], _, [_, _, _, _]⟩ by kernel_rfl) (pc (not_ff h1) (pc (not_ff h2) (pc h3 (pc h4 pn)))) (cc (f115_ok a) (cc (f115_ok b) (cc (f116_ok a) (cc (f116_ok b) (cc (f108_ok (m116 a) (m116 b)) (cc (f53_ok (m108 (m116 a) (m116 b))) cn))))))
   ·rw [show m106_107_108 a b = ((V.mk 2 0 (m53 (m108 (m116 a) (m116 b))) bE []), 0) by simp only [m106_107_108, h1, h2, h3, cond_true, cond_false]]
    exact co Tryz.func106 (by kernel_rfl) (show runF TP 99 Tryz.f106 [(VM a), (VM b), (.clo 107 []), (.clo 108 [])] [] [] [rg [2, 3, 4, 5, 8] [4, 5, 8], .reg [(rr (tB (m115 a))), .bit false, (rr (tB (m115 b)))] [] [2, 3, 4, 5, 8, 12] [4, 5, 8], b0 [2, 3, 4, 5, 8] [4, 5, 8], .reg [.bit true] [] [2, 3, 4, 5, 8, 22] [4, 5, 8], b1 [3, 4, 5, 8] [4, 5, 8], .drw [[], [], [(rr (tF (m116 a)))], [], [(rr (tF (m116 b)))], [(rr (tF (m108 (m116 a) (m116 b))))], [(rr (tF (m53 (m108 (m116 a) (m116 b)))))], [], [], []] [] [8, 9] [8]] = some ⟨.ret (.tup [(.agg [(tI 2), (tI 0), (tF (m53 (m108 (m116 a) (m116 b)))), (tS bE), (tL [])]), (tI 0)]), [], _, [_, _, _, true = true]⟩ by kernel_rfl) (pc (not_ff h1) (pc (not_ff h2) (pc h3 (pc rfl pn)))) (cc (f115_ok a) (cc (f115_ok b) (cc (f116_ok a) (cc (f116_ok b) (cc (f108_ok (m116 a) (m116 b)) (cc (f53_ok (m108 (m116 a) (m116 b))) cn))))))
def m89 (a : V) (b : V) : V × Int :=
 (((m106_107_108 a b).1), (m106_107_108 a b).2)
theorem f89_ok (a : V) (b : V) : CallOk TP 89 [(VM a), (VM b)] [] (.ret (.tup [(VM ((m89 a b).1)), (tI (m89 a b).2)])) [] := by
 rw [show m89 a b = (((m106_107_108 a b).1), (m106_107_108 a b).2) by simp only [m89]]
 exact co Tryz.func89 (by kernel_rfl) (show runF TP 99 Tryz.f89 [(VM a), (VM b)] [] [] [rg [2, 3, 4] [2, 3, 4], .reg [(rr (.tup [(VM ((m106_107_108 a b).1)), (tI (m106_107_108 a b).2)]))] [] [4, 5] [4]] = some ⟨.ret (.tup [(VM ((m106_107_108 a b).1)), (tI (m106_107_108 a b).2)]), [], _, []⟩ by kernel_rfl) pn (cc (f106_107_108_ok a b) cn)
def m62_b0 (a : (List V)) (x : V) (i : Nat) (s : Int × Int × (Option Nat) × ByteArray × (List V)) : Rd (V × Int) (Int × Int × (Option Nat) × ByteArray × (List V)) :=
 bif ((m89 (V.mk s.1 s.2.1 s.2.2.1 s.2.2.2.1 s.2.2.2.2) x).2 != (0 : Int)) then
  .ret ((V.mk 0 0 (some 0) bE []), (m89 (V.mk s.1 s.2.1 s.2.2.1 s.2.2.2.1 s.2.2.2.2) x).2)
 else
  .next (((m89 (V.mk s.1 s.2.1 s.2.2.1 s.2.2.2.1 s.2.2.2.2) x).1).k, ((m89 (V.mk s.1 s.2.1 s.2.2.1 s.2.2.2.1 s.2.2.2.2) x).1).i, ((m89 (V.mk s.1 s.2.1 s.2.2.1 s.2.2.2.1 s.2.2.2.2) x).1).f, ((m89 (V.mk s.1 s.2.1 s.2.2.1 s.2.2.2.1 s.2.2.2.2) x).1).s, (((m89 (V.mk s.1 s.2.1 s.2.2.1 s.2.2.2.1 s.2.2.2.2) x).1).l))
def m62 (a : (List V)) : V × Int :=
 match (lp (m62_b0 a) a 0 (1, 0, (some 0), bE, [])) with
 | .inl q1 => (
  (q1.1, q1.2))
 | .inr q1 => (
  ((V.mk q1.2.1 q1.2.2.1 q1.2.2.2.1 q1.2.2.2.2.1 q1.2.2.2.2.2), 0))
theorem f62_ok (a : (List V)) : CallOk TP 62 [(tL (V.rows a))] [] (.ret (.tup [(VM ((m62 a).1)), (tI (m62 a).2)])) [] := by
 refine CallOk.short fun hsh => ?_
 have hlen : a.length ≤ 274877906944 := (V.len hsh.1)
 have hl1 : W TP (bodyAt Tryz.f62 [1, 1, 0, 1, 0]) ⟨27, [(2, (.ptr 2 0)), (4, (.ptr 4 0)), (9, (tL (V.rows a))), (10, (tI (((V.rows a).length : Nat) : Int))), (11, (tI 0))], [(2, .os [(tI 0), (tI 0), (tF (some 0)), (tS bE), (.tight [])]), (4, .os [(tI 1), (tI 0), (tF (some 0)), (tS bE), (tL [])])]⟩ (lpPost (fun (i : Nat) (s : Int × Int × (Option Nat) × ByteArray × (List V)) => (⟨27, [(2, (.ptr 2 0)), (4, (.ptr 4 0))], [(2, .os [(tI 0), (tI 0), (tF (some 0)), (tS bE), (.tight [])]), (4, .os [(tI s.1), (tI s.2.1), (tF s.2.2.1), (tS s.2.2.2.1), (tL (V.rows s.2.2.2.2))])]⟩ : St)) (fun (r : V × Int) => (⟨27, [(2, (.ptr 2 0)), (3, (tI r.2))], [(2, .os [(tI r.1.k), (tI r.1.i), (tF r.1.f), (tS r.1.s), (tL (V.rows r.1.l))])]⟩ : St)) (.exit 0) (lp (m62_b0 a) a 0 (1, 0, (some 0), bE, []))) := by
  refine lp1_W (e := (.exit 0)) (c := bodyAt Tryz.f62 [1, 1, 0, 1, 0, 0]) a (fun (i : Nat) (s : Int × Int × (Option Nat) × ByteArray × (List V)) => (⟨27, [(2, (.ptr 2 0)), (4, (.ptr 4 0)), (9, (tL (V.rows a))), (10, (tI (((V.rows a).length : Nat) : Int))), (11, (tI ((i : Nat) : Int)))], [(2, .os [(tI 0), (tI 0), (tF (some 0)), (tS bE), (.tight [])]), (4, .os [(tI s.1), (tI s.2.1), (tF s.2.2.1), (tS s.2.2.2.1), (tL (V.rows s.2.2.2.2))])]⟩ : St)) (fun (i : Nat) (s : Int × Int × (Option Nat) × ByteArray × (List V)) => (⟨27, [(2, (.ptr 2 0)), (4, (.ptr 4 0))], [(2, .os [(tI 0), (tI 0), (tF (some 0)), (tS bE), (.tight [])]), (4, .os [(tI s.1), (tI s.2.1), (tF s.2.2.1), (tS s.2.2.2.1), (tL (V.rows s.2.2.2.2))])]⟩ : St)) (fun (r : V × Int) => (⟨27, [(2, (.ptr 2 0)), (3, (tI r.2))], [(2, .os [(tI r.1.k), (tI r.1.i), (tF r.1.f), (tS r.1.s), (tL (V.rows r.1.l))])]⟩ : St)) (m62_b0 a) (fun (i : Nat) (s : Int × Int × (Option Nat) × ByteArray × (List V)) => (True : Prop)) (1, 0, (some 0), bE, []) trivial (by kernel_rfl) (by simp) ?_ ?_
  ·intro s hI
   exact wo (show run TP 99 (bodyAt Tryz.f62 [1, 1, 0, 1, 0, 0]) ⟨27, [(2, (.ptr 2 0)), (4, (.ptr 4 0)), (9, (tL (V.rows a))), (10, (tI (((V.rows a).length : Nat) : Int))), (11, (tI ((a.length : Nat) : Int)))], [(2, .os [(tI 0), (tI 0), (tF (some 0)), (tS bE), (.tight [])]), (4, .os [(tI s.1), (tI s.2.1), (tF s.2.2.1), (tS s.2.2.2.1), (tL (V.rows s.2.2.2.2))])]⟩ [rg [2, 4, 9, 10, 11, 12] [2, 4], b0 [2, 4] [2, 4]] = some ⟨(.exit 0), ⟨27, [(2, (.ptr 2 0)), (4, (.ptr 4 0))], [(2, .os [(tI 0), (tI 0), (tF (some 0)), (tS bE), (.tight [])]), (4, .os [(tI s.1), (tI s.2.1), (tF s.2.2.1), (tS s.2.2.2.1), (tL (V.rows s.2.2.2.2))])]⟩, [], [], [(decide (((a.length : Nat) : Int) < (((V.rows a).length : Nat) : Int))) = false]⟩ by kernel_rfl) (pc (lt_ff (V.rows_length _)) pn) cn
  ·intro i x s hx hi hI
   cases g2 : ((m89 (V.mk s.1 s.2.1 s.2.2.1 s.2.2.2.1 s.2.2.2.2) x).2 != (0 : Int))
   ·have hb : (m62_b0 a) x i s = .next (((m89 (V.mk s.1 s.2.1 s.2.2.1 s.2.2.2.1 s.2.2.2.2) x).1).k, ((m89 (V.mk s.1 s.2.1 s.2.2.1 s.2.2.2.1 s.2.2.2.2) x).1).i, ((m89 (V.mk s.1 s.2.1 s.2.2.1 s.2.2.2.1 s.2.2.2.2) x).1).f, ((m89 (V.mk s.1 s.2.1 s.2.2.1 s.2.2.2.1 s.2.2.2.2) x).1).s, (((m89 (V.mk s.1 s.2.1 s.2.2.1 s.2.2.2.1 s.2.2.2.2) x).1).l)) := by simp only [m62_b0, g2, cond_true, cond_false]
    rw [hb]
    have hr := wo (show run TP 99 (bodyAt Tryz.f62 [1, 1, 0, 1, 0, 0]) ⟨27, [(2, (.ptr 2 0)), (4, (.ptr 4 0)), (9, (tL (V.rows a))), (10, (tI (((V.rows a).length : Nat) : Int))), (11, (tI ((i : Nat) : Int)))], [(2, .os [(tI 0), (tI 0), (tF (some 0)), (tS bE), (.tight [])]), (4, .os [(tI s.1), (tI s.2.1), (tF s.2.2.1), (tS s.2.2.2.1), (tL (V.rows s.2.2.2.2))])]⟩ [rg [2, 4, 9, 10, 11, 12] [2, 4], b1 [2, 4, 9, 10, 11] [2, 4], .reg [.cellsT (VC x)] [] [2, 4, 6, 9, 10, 11] [2, 4, 6], rg [2, 4, 6, 9, 10, 11] [2, 4, 6], .reg [(rr (.tup [(VM ((m89 (V.mk s.1 s.2.1 s.2.2.1 s.2.2.2.1 s.2.2.2.2) x).1)), (tI (m89 (V.mk s.1 s.2.1 s.2.2.1 s.2.2.2.1 s.2.2.2.2) x).2)]))] [] [2, 4, 7, 9, 10, 11] [2, 4], rg [2, 4, 7, 9, 10, 11, 22] [2, 4], b0 [2, 4, 9, 10, 11] [2, 4], rg [2, 4, 9, 10, 11] [2, 4]] = some ⟨.normal, ⟨27, [(2, (.ptr 2 0)), (4, (.ptr 4 0)), (9, (tL (V.rows a))), (10, (tI (((V.rows a).length : Nat) : Int))), (11, (tI (IntKind.i64.wrap (((i : Nat) : Int) + 1))))], [(2, .os [(tI 0), (tI 0), (tF (some 0)), (tS bE), (.tight [])]), (4, .os [(tI ((m89 (V.mk s.1 s.2.1 s.2.2.1 s.2.2.2.1 s.2.2.2.2) x).1).k), (tI ((m89 (V.mk s.1 s.2.1 s.2.2.1 s.2.2.2.1 s.2.2.2.2) x).1).i), (tF ((m89 (V.mk s.1 s.2.1 s.2.2.1 s.2.2.2.1 s.2.2.2.2) x).1).f), (tS ((m89 (V.mk s.1 s.2.1 s.2.2.1 s.2.2.2.1 s.2.2.2.2) x).1).s), (tL (V.rows (((m89 (V.mk s.1 s.2.1 s.2.2.1 s.2.2.2.1 s.2.2.2.2) x).1).l)))])]⟩, [], _, [(decide (((i : Nat) : Int) < (((V.rows a).length : Nat) : Int))) = true, (0 : Int) ≤ ((i : Nat) : Int), _, _]⟩ by kernel_rfl) (pc (lt_tt hi (V.rows_length _)) (pc (Int.natCast_nonneg _) (pc (V.rows_at hx) (pc g2 pn)))) (cc (f89_ok (V.mk s.1 s.2.1 s.2.2.1 s.2.2.2.1 s.2.2.2.2) x) cn)
    rw [wrap_succ hi hlen] at hr
    exact ⟨hr, fun _ _ => trivial⟩
   ·have hb : (m62_b0 a) x i s = .ret ((V.mk 0 0 (some 0) bE []), (m89 (V.mk s.1 s.2.1 s.2.2.1 s.2.2.2.1 s.2.2.2.2) x).2) := by simp only [m62_b0, g2, cond_true, cond_false]
    rw [hb]
    have hr := wo (show run TP 99 (bodyAt Tryz.f62 [1, 1, 0, 1, 0, 0]) ⟨27, [(2, (.ptr 2 0)), (4, (.ptr 4 0)), (9, (tL (V.rows a))), (10, (tI (((V.rows a).length : Nat) : Int))), (11, (tI ((i : Nat) : Int)))], [(2, .os [(tI 0), (tI 0), (tF (some 0)), (tS bE), (.tight [])]), (4, .os [(tI s.1), (tI s.2.1), (tF s.2.2.1), (tS s.2.2.2.1), (tL (V.rows s.2.2.2.2))])]⟩ [rg [2, 4, 9, 10, 11, 12] [2, 4], b1 [2, 4, 9, 10, 11] [2, 4], .reg [.cellsT (VC x)] [] [2, 4, 6, 9, 10, 11] [2, 4, 6], rg [2, 4, 6, 9, 10, 11] [2, 4, 6], .reg [(rr (.tup [(VM ((m89 (V.mk s.1 s.2.1 s.2.2.1 s.2.2.2.1 s.2.2.2.2) x).1)), (tI (m89 (V.mk s.1 s.2.1 s.2.2.1 s.2.2.2.1 s.2.2.2.2) x).2)]))] [] [2, 4, 7, 9, 10, 11] [2, 4], rg [2, 4, 7, 9, 10, 11, 22] [2, 4], b1 [2, 7] [2], .reg [] [.tame 2 4] [2, 3] [2]] = some ⟨.ret, ⟨27, [(2, (.ptr 2 0)), (3, (tI (m89 (V.mk s.1 s.2.1 s.2.2.1 s.2.2.2.1 s.2.2.2.2) x).2))], [(2, .os [(tI 0), (tI 0), (tF (some 0)), (tS bE), (tL [])])]⟩, [], _, [(decide (((i : Nat) : Int) < (((V.rows a).length : Nat) : Int))) = true, (0 : Int) ≤ ((i : Nat) : Int), _, _]⟩ by kernel_rfl) (pc (lt_tt hi (V.rows_length _)) (pc (Int.natCast_nonneg _) (pc (V.rows_at hx) (pc g2 pn)))) (cc (f89_ok (V.mk s.1 s.2.1 s.2.2.1 s.2.2.2.1 s.2.2.2.2) x) cn)
    exact ⟨hr, fun _ _ => trivial⟩
 cases h1 : (lp (m62_b0 a) a 0 (1, 0, (some 0), bE, [])) with
 | inl q1 => 
  rw [show m62 a = (q1.1, q1.2) by simp only [m62, h1, cond_true, cond_false]]
  rw [h1] at hl1
  exact co Tryz.func62 (by kernel_rfl) (show runF TP 99 Tryz.f62 [(tL (V.rows a))] [] [] [rg [0, 2] [2], rg [0, 2, 4] [2, 4], .reg [] [.tame 4 4] [2, 4, 9, 10, 11] [2, 4], .cut .ret ⟨27, [(2, (.ptr 2 0)), (3, (tI q1.2))], [(2, .os [(tI q1.1.k), (tI q1.1.i), (tF q1.1.f), (tS q1.1.s), (tL (V.rows q1.1.l))])]⟩] = some ⟨.ret (.tup [(VM q1.1), (tI q1.2)]), [], [], [_]⟩ by kernel_rfl) (pc hl1 pn) cn
 | inr q1 => 
  rw [show m62 a = ((V.mk q1.2.1 q1.2.2.1 q1.2.2.2.1 q1.2.2.2.2.1 q1.2.2.2.2.2), 0) by simp only [m62, h1, cond_true, cond_false]]
  rw [h1] at hl1
  exact co Tryz.func62 (by kernel_rfl) (show runF TP 99 Tryz.f62 [(tL (V.rows a))] [] [] [rg [0, 2] [2], rg [0, 2, 4] [2, 4], .reg [] [.tame 4 4] [2, 4, 9, 10, 11] [2, 4], .cut (.exit 0) ⟨27, [(2, (.ptr 2 0)), (4, (.ptr 4 0))], [(2, .os [(tI 0), (tI 0), (tF (some 0)), (tS bE), (.tight [])]), (4, .os [(tI q1.2.1), (tI q1.2.2.1), (tF q1.2.2.2.1), (tS q1.2.2.2.2.1), (tL (V.rows q1.2.2.2.2.2))])]⟩, rg [2, 3] [2]] = some ⟨.ret (.tup [(.agg [(tI q1.2.1), (tI q1.2.2.1), (tF q1.2.2.2.1), (tS q1.2.2.2.2.1), (tL (V.rows q1.2.2.2.2.2))]), (tI 0)]), [], [], [_]⟩ by kernel_rfl) (pc hl1 pn) cn
end Go.Bm
