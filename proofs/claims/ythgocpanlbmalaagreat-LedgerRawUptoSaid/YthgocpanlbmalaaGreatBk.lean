import Derived.Test.YthgocpanlbmalaaGreatLf
import Derived.Test.YthgocpanlbmalaaGreatProg
import Derived.KernelRfl
set_option linter.unusedVariables false
set_option linter.unusedSimpArgs false
/- Package ledger's book: what its methods come to. -/
set_option maxHeartbeats 1000000
namespace Go.Bm
open Go Go.Proofs
def RowsVt (X : List (List M)) (l : List V) : Prop := X.length = l.length ∧ ∀ (i : Nat) (cs : List M) (v : V), X[i]? = some cs → l[i]? = some v → VtL noB cs v.cells
theorem RowsVt.vt {X : List (List M)} {l : List V} (h : RowsVt X l) : Vt noB (.oa [] 5 X) (.sl (V.rows l)) := by
 refine .oa [] 5 X _ (by rw [V.rows_length]; exact h.1) (fun i cs rs h1 h2 => ?_) (fun i j cs rs c r h1 h2 h3 h4 => ?_)
 ·rw [V.rows_get] at h2
  obtain ⟨v, hv, rfl⟩ := Option.map_eq_some_iff.1 h2
  exact (h.2 i cs v h1 hv).1
 ·rw [V.rows_get] at h2
  obtain ⟨v, hv, rfl⟩ := Option.map_eq_some_iff.1 h2
  exact (h.2 i cs v h1 hv).2 j c r h3 h4
theorem RowsVt.o1s (l : List V) : RowsVt (V.o1s l) l := ⟨V.o1s_length l, fun i cs v h1 h2 => by
 rw [o1s_at h2] at h1
 cases h1
 exact v.o1_vt⟩
theorem RowsVt.one {r : List M} {v : V} (h : VtL noB r v.cells) : RowsVt [r] [v] := ⟨rfl, fun i cs w h1 h2 => by
 cases i with
 | zero => simp at h1 h2; subst h1; subst h2; exact h
 | succ i => simp at h1⟩
theorem RowsVt.append {X Y : List (List M)} {l k : List V} (h : RowsVt X l) (h' : RowsVt Y k) : RowsVt (X ++ Y) (l ++ k) := ⟨by simp [h.1, h'.1], fun i cs v h1 h2 => by
 by_cases hlt : i < X.length
 ·rw [List.getElem?_append_left hlt] at h1
  rw [List.getElem?_append_left (by rw [← h.1]; exact hlt)] at h2
  exact h.2 i cs v h1 h2
 ·rw [List.getElem?_append_right (by omega)] at h1
  rw [List.getElem?_append_right (by rw [← h.1]; omega), ← h.1] at h2
  exact h'.2 _ cs v h1 h2⟩
theorem RowsVt.take {X : List (List M)} {l : List V} (h : RowsVt X l) (n : Nat) : RowsVt (X.take n) (l.take n) := ⟨by simp [h.1], fun i cs v h1 h2 => by
 rw [List.getElem?_take] at h1 h2
 split at h1
 ·rename_i e; rw [if_pos e] at h2; exact h.2 i cs v h1 h2
 ·cases h1⟩
theorem RowsVt.drop {X : List (List M)} {l : List V} (h : RowsVt X l) (n : Nat) : RowsVt (X.drop n) (l.drop n) := ⟨by simp [h.1], fun i cs v h1 h2 => by
 rw [List.getElem?_drop] at h1 h2
 exact h.2 _ cs v h1 h2⟩
theorem RowsVt.set {X : List (List M)} {l : List V} (h : RowsVt X l) (n : Nat) {r : List M} {w : V} (hr : VtL noB r w.cells) : RowsVt (X.set n r) (l.set n w) := ⟨by simp [h.1], fun i cs v h1 h2 => by
 rw [List.getElem?_set] at h1 h2
 by_cases e : n = i
 ·rw [if_pos e] at h1 h2
  split at h1
  ·rename_i hlt
   rw [if_pos (by rw [← h.1]; exact hlt)] at h2
   cases h1; cases h2; exact hr
  ·cases h1
 ·rw [if_neg e] at h1 h2
  exact h.2 i cs v h1 h2⟩
theorem RowsVt.soft {X : List (List M)} {l : List V} (h : RowsVt X l) : Soft (.oa [] 5 X) (.t (.sl (V.rows l))) := .com _ _ rfl h.vt
theorem CallOk.rows {P : Program} {f : FuncId} {args ls : List M} {oc : Oc} {X : List (List M)} {l : List V} (hl : 0 < ls.length) (h : CallOk P f args ls oc [.is (.os [.oa [] 5 X])]) (hX : RowsVt X l) : CallOk P f args ls oc [.is (.os [.t (.sl (V.rows l))])] :=
 CallOk.softB (i := 0) (c := 0) (cs := [.oa [] 5 X]) hl rfl rfl rfl hX.soft h
def V.zero : V := .mk 0 0 (some 0) (ByteArray.mk #[]) []
def V.fzero : V := .mk 2 0 (some 0) (ByteArray.mk #[]) []
def V.acct (c : V) : V := .mk 4 0 (some 0) (ByteArray.mk #[]) [c, V.fzero]
def V.put1 (x y : V) : V := .mk x.k x.i x.f x.s (x.l.set 1 y)
theorem rowsT_set (l : List V) (i : Nat) (y : V) : (rowsT (V.rows l)).set i (y.cells.map .t) = rowsT (V.rows (l.set i y)) := by
 simp only [rowsT, V.rows_map, List.map_set, List.map_map]
theorem put1_vt (x y : V) : VtL noB [(.t (.s (.int .i64 x.k))), (.t (.s (.int .i64 x.i))), (.t (.f x.f)), (.t (.s (.string x.s))), (.oa [] 5 ((rowsT (V.rows x.l)).set 1 (y.cells.map .t)))] (x.put1 y).cells := by
 rw [rowsT_set]
 exact .cons (.t _) (.cons (.t _) (.cons (.t _) (.cons (.t _) (.cons (vt_rowsT _) (.nil _)))))
theorem same_vt (x : V) : VtL noB [(.t (.s (.int .i64 x.k))), (.t (.s (.int .i64 x.i))), (.t (.f x.f)), (.t (.s (.string x.s))), (.oa [] 5 (rowsT (V.rows x.l)))] x.cells :=
 .cons (.t _) (.cons (.t _) (.cons (.t _) (.cons (.t _) (.cons (vt_rowsT _) (.nil _)))))
theorem acct_vt (c : V) : VtL noB (row55 c) (V.acct c).cells :=
 .cons (.t _) (.cons (.t _) (.cons (.t _) (.cons (.t _) (.cons (by
  show Vt noB (.tight _) (.sl (V.rows [c, V.fzero]))
  simp only [V.rows, V.row_cells]
  exact .tight _) (.nil _)))))
structure BkOk (l : List V) : Prop where
 len : l.length ≤ 1000000
 two : ∀ x ∈ l, 1 < x.l.length
theorem BkOk.one {l : List V} (h : BkOk l) : ∀ x ∈ (⟨l⟩ : QLedgerBook).l, 0 < x.l.length := fun x hx => Nat.lt_of_succ_lt (h.two x hx)
theorem f86_nat {l : List V} (h : BkOk l) (y : V) : ∃ i : Nat, (m86 ⟨l⟩ y).1 = (i : Int) ∧ i ≤ l.length ∧ CallOk Tryz.prog 86 [.cp [(.sl (V.rows l))], (.agg [(.t (.s (.int .i64 y.k))), (.t (.s (.int .i64 y.i))), (.t (.f y.f)), (.t (.s (.string y.s))), (.t (.sl (V.rows y.l)))])] [] (.ret (.tup [(.t (.s (.int .i64 ((i : Nat) : Int)))), (.t (.s (.bool (m86 ⟨l⟩ y).2)))])) [] := by
 have hb := m101_bnd l y.s (Nat.le_trans h.len (by decide))
 have hi : (m86 ⟨l⟩ y).1 = (((m86 ⟨l⟩ y).1.toNat : Nat) : Int) := (Int.toNat_of_nonneg hb.1).symm
 refine ⟨_, hi, ?_, ?_⟩
 ·have := hb.2.1
  show (m101_102 l y.s).1.toNat ≤ _
  omega
 ·have hc := f86_ok ⟨l⟩ y h.one
  rw [hi] at hc
  exact hc
theorem f56_nat {l : List V} (h : BkOk l) (y : V) {j : Int} (hj : m56 ⟨l⟩ y = .ret j) : ∃ i : Nat, j = (i : Int) ∧ i < l.length ∧ CallOk Tryz.prog 56 [.cp [(.sl (V.rows l))], (.agg [(.t (.s (.int .i64 y.k))), (.t (.s (.int .i64 y.i))), (.t (.f y.f)), (.t (.s (.string y.s))), (.t (.sl (V.rows y.l)))])] [] (.ret (.t (.s (.int .i64 ((i : Nat) : Int))))) [] := by
 have hb := m56_bnd ⟨l⟩ y (Nat.le_trans h.len (by decide)) hj
 have hi : j = ((j.toNat : Nat) : Int) := (Int.toNat_of_nonneg hb.1).symm
 refine ⟨_, hi, hb.2, ?_⟩
 have hc := f56_ok ⟨l⟩ y h.one
 rw [hj, hi] at hc
 exact hc
theorem f56_pan {l : List V} (h : BkOk l) (y : V) {v : Value} (hj : m56 ⟨l⟩ y = .pan v) : CallOk Tryz.prog 56 [.cp [(.sl (V.rows l))], (.agg [(.t (.s (.int .i64 y.k))), (.t (.s (.int .i64 y.i))), (.t (.f y.f)), (.t (.s (.string y.s))), (.t (.sl (V.rows y.l)))])] [] (.pan v) [] := by
 have hc := f56_ok ⟨l⟩ y h.one
 rw [hj] at hc
 exact hc
def BOc (f : FuncId) (args : List M) (l : List V) : Ou (V × List V) → Prop
 | .pan v => CallOk Tryz.prog f args [.os [.oa [] 5 (V.o1s l)]] (.pan v) [.gone]
 | .ret (r, l') => CallOk Tryz.prog f args [.os [.oa [] 5 (V.o1s l)]] (.ret (.agg [(.t (.s (.int .i64 r.k))), (.t (.s (.int .i64 r.i))), (.t (.f r.f)), (.t (.s (.string r.s))), (.t (.sl (V.rows r.l)))])) [.is (.os [.t (.sl (V.rows l'))])]
def opnB (l : List V) (y : V) : Ou (List V) :=
 match m57 (!(m86 ⟨l⟩ y).2) 32 with
 | .pan v => .pan v
 | .ret _ => match m57 (decide (((l.length : Nat) : Int) < (32 : Int))) 33 with
  | .pan v => .pan v
  | .ret _ => .ret (l.take (m86 ⟨l⟩ y).1.toNat ++ [V.acct (V.clean y)] ++ l.drop (m86 ⟨l⟩ y).1.toNat)
theorem f57_pan {b : Bool} {e : Int} {v : Value} (h : m57 b e = .pan v) : CallOk Tryz.prog 57 [(.t (.s (.bool b))), (.t (.s (.int .i64 e)))] [] (.pan v) [] := by
 have hc := f57_ok b e
 rw [h] at hc
 exact hc
theorem f57_ret {b : Bool} {e : Int} {u : Unit} (h : m57 b e = .ret u) : CallOk Tryz.prog 57 [(.t (.s (.bool b))), (.t (.s (.int .i64 e)))] [] (.ret (.tup [])) [] := by
 have hc := f57_ok b e
 rw [h] at hc
 exact hc
theorem f55b {l : List V} (h : BkOk l) (y : V) :
  match opnB l y with
  | .pan v => CallOk Tryz.prog 55 [(.ptr 1000000 0), (.agg [(.t (.s (.int .i64 y.k))), (.t (.s (.int .i64 y.i))), (.t (.f y.f)), (.t (.s (.string y.s))), (.t (.sl (V.rows y.l)))])] [.os [.oa [] 5 (V.o1s l)]] (.pan v) [.gone]
  | .ret l' => ∃ X, RowsVt X l' ∧ CallOk Tryz.prog 55 [(.ptr 1000000 0), (.agg [(.t (.s (.int .i64 y.k))), (.t (.s (.int .i64 y.i))), (.t (.f y.f)), (.t (.s (.string y.s))), (.t (.sl (V.rows y.l)))])] [.os [.oa [] 5 (V.o1s l)]] (.ret (.tup [])) [.is (.os [.oa [] 5 X])] := by
 obtain ⟨i, hi, hil, hc⟩ := f86_nat h y
 unfold opnB
 cases h1 : m57 (!(m86 ⟨l⟩ y).2) 32 with
 | pan v => exact c55a l y i _ v hc (f57_pan h1)
 | ret u =>
  cases h2 : m57 (decide (((l.length : Nat) : Int) < (32 : Int))) 33 with
  | pan v => exact c55b l y i _ v hc (f57_ret h1) (by rw [V.o1s_length]; exact f57_pan h2)
  | ret u2 =>
   simp only
   refine ⟨ins55 l i (V.clean y), ?_, c55c l y i _ (V.clean y) hc (f57_ret h1) (by rw [V.o1s_length]; exact f57_ret h2) (f26_ok y) ?_⟩
   ·rw [hi]
    exact ((RowsVt.o1s l).take i).append (.one (acct_vt _)) |>.append ((RowsVt.o1s l).drop i)
   ·exact f87_ok (V.o1s l) [row55 (V.clean y)] i (by rw [V.o1s_length]; exact hil) (by simp) (by rw [V.o1s_length]; have := h.len; simp; omega)
theorem m89_l (a b : V) : ((m89 a b).1).l = [] := by
 simp only [m89, m106_107_108, cond_eq_ite]
 repeat' split
 all_goals rfl
theorem m60_eq {l : List V} {i : Int} {n r : V} (h : m60 ⟨l⟩ i n = .ret r) : r.l = [] := by
 unfold m60 at h
 split at h
 ·cases h
 ·cases h; exact m89_l _ _
theorem cells_nil {r : V} (h : r.l = []) : ([(.t (.s (.int .i64 r.k))), (.t (.s (.int .i64 r.i))), (.t (.f r.f)), (.t (.s (.string r.s))), (.t (.sl []))] : List M) = r.cells.map .t := by
 simp only [V.cells, h, V.rows, List.map_cons, List.map_nil]
theorem f60_nat {l : List V} (h : BkOk l) {i : Nat} (hi : i < l.length) (n : V) :
  match m60 ⟨l⟩ ((i : Nat) : Int) n with
  | .pan v => CallOk Tryz.prog 60 [.cp [(.sl (V.rows l))], (.t (.s (.int .i64 ((i : Nat) : Int)))), (.agg [(.t (.s (.int .i64 n.k))), (.t (.s (.int .i64 n.i))), (.t (.f n.f)), (.t (.s (.string n.s))), (.t (.sl (V.rows n.l)))])] [] (.pan v) []
  | .ret r => CallOk Tryz.prog 60 [.cp [(.sl (V.rows l))], (.t (.s (.int .i64 ((i : Nat) : Int)))), (.agg [(.t (.s (.int .i64 n.k))), (.t (.s (.int .i64 n.i))), (.t (.f n.f)), (.t (.s (.string n.s))), (.t (.sl (V.rows n.l)))])] [] (.ret (.agg [(.t (.s (.int .i64 r.k))), (.t (.s (.int .i64 r.i))), (.t (.f r.f)), (.t (.s (.string r.s))), (.t (.sl []))])) [] := by
 have hc := f60_ok ⟨l⟩ ((i : Nat) : Int) n ⟨Int.natCast_nonneg _, hi⟩ (h.two _ (getD_mem hi))
 cases h1 : m60 ⟨l⟩ ((i : Nat) : Int) n with
 | pan v => rw [h1] at hc; exact hc
 | ret r =>
  rw [h1] at hc
  have := m60_eq h1
  simp only [VM, Ou.oc, this, V.rows] at hc
  exact hc
theorem f59_pan {a : V} {v : Value} (h : m59 a = .pan v) : CallOk Tryz.prog 59 [(.agg [(.t (.s (.int .i64 a.k))), (.t (.s (.int .i64 a.i))), (.t (.f a.f)), (.t (.s (.string a.s))), (.t (.sl (V.rows a.l)))])] [] (.pan v) [] := by
 have hc := f59_ok a
 rw [h] at hc
 exact hc
theorem f59_ret {a r : V} (h : m59 a = .ret r) : CallOk Tryz.prog 59 [(.agg [(.t (.s (.int .i64 a.k))), (.t (.s (.int .i64 a.i))), (.t (.f a.f)), (.t (.s (.string a.s))), (.t (.sl (V.rows a.l)))])] [] (.ret (.agg [(.t (.s (.int .i64 r.k))), (.t (.s (.int .i64 r.i))), (.t (.f r.f)), (.t (.s (.string r.s))), (.t (.sl (V.rows r.l)))])) [] := by
 have hc := f59_ok a
 rw [h] at hc
 exact hc
def movB (l : List V) (a0 a1 a2 : V) : Ou (V × List V) :=
 match m59 a2 with
 | .pan v => .pan v
 | .ret n => match m56 ⟨l⟩ a0 with
  | .pan v => .pan v
  | .ret i => match m56 ⟨l⟩ a1 with
   | .pan v => .pan v
   | .ret k =>
    match m57 (fo ((l[i.toNat]?.getD default).l[1]?.getD default).f n.f == some .gt || fo ((l[i.toNat]?.getD default).l[1]?.getD default).f n.f == some .eq) 36 with
    | .pan v => .pan v
    | .ret _ => bif i == k then .ret ((l[i.toNat]?.getD default).l[1]?.getD default, l) else
     match m60 ⟨l⟩ k n with
     | .pan v => .pan v
     | .ret more => .ret ((m90 ((l[i.toNat]?.getD default).l[1]?.getD default) n).1,
       (l.set k.toNat ((l[k.toNat]?.getD default).put1 more)).set i.toNat ((l[i.toNat]?.getD default).put1 (m90 ((l[i.toNat]?.getD default).l[1]?.getD default) n).1))
theorem setGet {α : Type} {xs : List α} {i : Nat} {r : α} (h : xs[i]? = some r) : xs.set i r = xs := by
 apply List.ext_getElem?
 intro j
 rw [List.getElem?_set]
 by_cases e : i = j
 ·subst e; rw [if_pos rfl, if_pos (List.getElem?_eq_some_iff.1 h).1, h]
 ·rw [if_neg e]
theorem get_of {l : List V} {i : Nat} (h : i < l.length) : l[i]? = some (l[i]?.getD default) := by rw [List.getElem?_eq_getElem h]; rfl
theorem f61b {l a : List V} (h : BkOk l) {a0 a1 a2 : V} (ha0 : a[0]? = some a0) (ha1 : a[1]? = some a1) (ha2 : a[2]? = some a2) :
  match movB l a0 a1 a2 with
  | .pan v => CallOk Tryz.prog 61 [(.ptr 1000000 0), (.t (.sl (V.rows a)))] [.os [.oa [] 5 (V.o1s l)]] (.pan v) [.gone]
  | .ret (r, l') => ∃ X, RowsVt X l' ∧ CallOk Tryz.prog 61 [(.ptr 1000000 0), (.t (.sl (V.rows a)))] [.os [.oa [] 5 (V.o1s l)]] (.ret (.agg [(.t (.s (.int .i64 r.k))), (.t (.s (.int .i64 r.i))), (.t (.f r.f)), (.t (.s (.string r.s))), (.t (.sl (V.rows r.l)))])) [.is (.os [.oa [] 5 X])] := by
 unfold movB
 cases h1 : m59 a2 with
 | pan v => exact c61a l a a0 a1 a2 default 0 0 v default default default default default 0 ha2 (f59_pan h1)
 | ret n =>
  cases h2 : m56 ⟨l⟩ a0 with
  | pan v => exact c61b l a a0 a1 a2 n 0 0 v default default default default default 0 ha0 ha2 (f59_ret h1) (f56_pan h a0 h2)
  | ret i' =>
   obtain ⟨i, rfl, hi, hci⟩ := f56_nat h a0 h2
   cases h3 : m56 ⟨l⟩ a1 with
   | pan v => exact c61c l a a0 a1 a2 n i 0 v default default default default default 0 ha0 ha1 ha2 (f59_ret h1) hci (f56_pan h a1 h3)
   | ret k' =>
    obtain ⟨k, rfl, hk, hck⟩ := f56_nat h a1 h3
    simp only [Int.toNat_natCast]
    have hx := get_of hi
    have hz := get_of hk
    have hx2 := h.two _ (getD_mem hi)
    have hz2 := h.two _ (getD_mem hk)
    have hy := get_of hx2
    have hw := get_of hz2
    generalize l[i]?.getD default = x at hx hx2 hy ⊢
    generalize l[k]?.getD default = z at hz hz2 hw ⊢
    generalize x.l[1]?.getD default = y at hy ⊢
    generalize z.l[1]?.getD default = w at hw
    cases h4 : m57 (fo y.f n.f == some .gt || fo y.f n.f == some .eq) 36 with
    | pan v => exact c61d l a a0 a1 a2 n i k v x y default default default 0 ha0 ha1 ha2 hx hy (f59_ret h1) hci hck (f57_pan h4)
    | ret u =>
     cases h5 : (((i : Nat) : Int) == ((k : Nat) : Int)) with
     | true =>
      simp only [cond_true]
      refine ⟨_, ?_, c61e l a a0 a1 a2 n i k default x y default default default 0 ha0 ha1 ha2 hx hy h5 (f59_ret h1) hci hck (f57_ret h4)⟩
      rw [List.set_set]
      have := (RowsVt.o1s l).set i (same_vt x)
      rwa [setGet hx] at this
     | false =>
      have hik : i ≠ k := fun e => by subst e; simp at h5
      simp only [cond_false]
      have hc := f60_nat h hk n
      cases h6 : m60 ⟨l⟩ ((k : Nat) : Int) n with
      | pan v =>
       rw [h6] at hc
       exact c61f l a a0 a1 a2 n i k v x y default default default 0 ha0 ha1 ha2 hx hy h5 (f59_ret h1) hci hck (f57_ret h4) hc
      | ret more =>
       rw [h6] at hc
       refine ⟨_, ?_, c61g l a a0 a1 a2 n i k default x y z more (m90 y n).1 (m90 y n).2 w ha0 ha1 ha2 hik hw hx hy hz h5 (f59_ret h1) hci hck (f57_ret h4) hc (f90_ok y n)⟩
       rw [List.set_set, List.set_comm _ _ hik, List.set_set, cells_nil (m60_eq h6)]
       exact ((RowsVt.o1s l).set k (put1_vt z more)).set i (put1_vt x _)
def doB (l : List V) (m : ByteArray) (a : List V) : Ou (V × List V) :=
 bif m.toList == (ByteArray.mk #[111, 112, 101, 110]).toList then
  match opnB l (a[0]?.getD default) with
  | .pan v => .pan v
  | .ret l' => .ret (V.zero, l')
 else bif m.toList == (ByteArray.mk #[99, 108, 111, 115, 101]).toList then
  match m56 ⟨l⟩ (a[0]?.getD default) with
  | .pan v => .pan v
  | .ret i => match m57 (fo ((l[i.toNat]?.getD default).l[1]?.getD default).f (some 0) == some .eq) 36 with
   | .pan v => .pan v
   | .ret _ => .ret (V.zero, l.take i.toNat ++ l.drop (i.toNat + 1))
 else bif m.toList == (ByteArray.mk #[100, 101, 112, 111, 115, 105, 116]).toList then
  match m59 (a[1]?.getD default) with
  | .pan v => .pan v
  | .ret n => match m56 ⟨l⟩ (a[0]?.getD default) with
   | .pan v => .pan v
   | .ret i => match m60 ⟨l⟩ i n with
    | .pan v => .pan v
    | .ret more => .ret (more, l.set i.toNat ((l[i.toNat]?.getD default).put1 more))
 else bif m.toList == (ByteArray.mk #[116, 114, 97, 110, 115, 102, 101, 114]).toList then
  movB l (a[0]?.getD default) (a[1]?.getD default) (a[2]?.getD default)
 else
  match m29 ⟨l⟩ m a with
  | .pan v => .pan v
  | .ret r => .ret (r, l)
theorem f29b {l a : List V} (h : BkOk l) {m : ByteArray} (ha : argsN m ≤ a.length) : BOc 29 [(.ptr 1000000 0), (.t (.s (.string m))), (.t (.sl (V.rows a)))] l (doB l m a) := by
 unfold doB
 unfold argsN at ha
 cases d0 : (m.toList == (ByteArray.mk #[111, 112, 101, 110]).toList) with
 | true =>
  rw [d0] at ha
  simp only [cond_true] at ha ⊢
  have ha0 := get_of (show 0 < a.length by omega)
  have hc := f55b h (a[0]?.getD default)
  cases h1 : opnB l (a[0]?.getD default) with
  | pan v =>
   rw [h1] at hc
   exact c29oa l a m _ default default default 0 v default default default default [] ha0 d0 hc
  | ret l' =>
   rw [h1] at hc
   obtain ⟨X, hX, hc⟩ := hc
   exact (c29ob l a m _ default default default 0 default default default default default X ha0 d0 hc).rows (by simp) hX
 | false =>
  rw [d0] at ha
  simp only [cond_false] at ha ⊢
  cases d1 : (m.toList == (ByteArray.mk #[99, 108, 111, 115, 101]).toList) with
  | true =>
   rw [d1] at ha
   simp only [cond_true] at ha ⊢
   have ha0 := get_of (show 0 < a.length by omega)
   generalize a[0]?.getD default = a0 at ha0 ⊢
   cases h2 : m56 ⟨l⟩ a0 with
   | pan v => exact c29ca l a m a0 default default default 0 v default default default default [] ha0 d0 d1 (f56_pan h a0 h2)
   | ret i' =>
    obtain ⟨i, rfl, hi, hci⟩ := f56_nat h a0 h2
    simp only [Int.toNat_natCast]
    have hx := get_of hi
    have hx2 := h.two _ (getD_mem hi)
    have hy := get_of hx2
    generalize l[i]?.getD default = x at hx hx2 hy ⊢
    generalize x.l[1]?.getD default = y at hy ⊢
    cases h3 : m57 (fo y.f (some 0) == some .eq) 36 with
    | pan v => exact c29cb l a m a0 default default default i v x y default default [] ha0 hx hy d0 d1 hci (f57_pan h3)
    | ret u =>
     have e1 : ((V.o1s l).set i [(.t (.s (.int .i64 x.k))), (.t (.s (.int .i64 x.i))), (.t (.f x.f)), (.t (.s (.string x.s))), (.sb 7002 5 0 ((rowsT (V.rows x.l)).length))]).set i [(.t (.s (.int .i64 x.k))), (.t (.s (.int .i64 x.i))), (.t (.f x.f)), (.t (.s (.string x.s))), (.oa [] 5 (rowsT (V.rows x.l)))] = V.o1s l := by
      rw [List.set_set]
      exact setGet (o1s_at hx)
     have e2 : IntKind.i64.wrap (((i : Nat) : Int) + 1) = ((i + 1 : Nat) : Int) := wrap_succ hi (Nat.le_trans h.len (by decide))
     have hd := f58_ok (V.o1s l) i (i + 1) (Nat.lt_succ_self i) (by rw [V.o1s_length]; exact hi)
     exact (c29cc l a m a0 default default default i default x y default default _ ha0 hx hy d0 d1 hci (f57_ret h3) (by rw [e1, e2]; exact hd)).rows (by simp) (((RowsVt.o1s l).take i).append ((RowsVt.o1s l).drop (i + 1)))
  | false =>
   rw [d1] at ha
   simp only [cond_false] at ha ⊢
   cases d2 : (m.toList == (ByteArray.mk #[100, 101, 112, 111, 115, 105, 116]).toList) with
   | true =>
    rw [d2] at ha
    simp only [cond_true] at ha ⊢
    have ha0 := get_of (show 0 < a.length by omega)
    have ha1 := get_of (show 1 < a.length by omega)
    generalize a[0]?.getD default = a0 at ha0 ⊢
    generalize a[1]?.getD default = a1 at ha1 ⊢
    cases h1 : m59 a1 with
    | pan v => exact c29da l a m a0 a1 default default 0 v default default default default [] ha1 d0 d1 d2 (f59_pan h1)
    | ret n =>
     cases h2 : m56 ⟨l⟩ a0 with
     | pan v => exact c29db l a m a0 a1 default n 0 v default default default default [] ha0 ha1 d0 d1 d2 (f59_ret h1) (f56_pan h a0 h2)
     | ret i' =>
      obtain ⟨i, rfl, hi, hci⟩ := f56_nat h a0 h2
      simp only [Int.toNat_natCast]
      have hx := get_of hi
      have hx2 := h.two _ (getD_mem hi)
      have hy := get_of hx2
      generalize l[i]?.getD default = x at hx hx2 hy ⊢
      generalize x.l[1]?.getD default = y at hy
      have hc := f60_nat h hi n
      cases h3 : m60 ⟨l⟩ ((i : Nat) : Int) n with
      | pan v =>
       rw [h3] at hc
       exact c29dc l a m a0 a1 default n i v x y default default [] ha0 ha1 hx d0 d1 d2 (f59_ret h1) hci hc
      | ret more =>
       rw [h3] at hc
       have hm := m60_eq h3
       have hq := (c29dd l a m a0 a1 default n i default x y more default [] ha0 ha1 hx hy d0 d1 d2 (f59_ret h1) hci hc).rows (l := l.set i (x.put1 more)) (by simp) (by
        rw [List.set_set, cells_nil hm]
        exact (RowsVt.o1s l).set i (put1_vt x more))
       simp only [BOc, hm, V.rows]
       exact hq
   | false =>
    rw [d2] at ha
    simp only [cond_false] at ha ⊢
    cases d3 : (m.toList == (ByteArray.mk #[116, 114, 97, 110, 115, 102, 101, 114]).toList) with
    | true =>
     rw [d3] at ha
     simp only [cond_true] at ha ⊢
     have ha0 := get_of (show 0 < a.length by omega)
     have ha1 := get_of (show 1 < a.length by omega)
     have ha2 := get_of (show 2 < a.length by omega)
     have hc := f61b h ha0 ha1 ha2
     cases h1 : movB l (a[0]?.getD default) (a[1]?.getD default) (a[2]?.getD default) with
     | pan v =>
      rw [h1] at hc
      exact c29ta l a m default default default default 0 v default default default default [] d0 d1 d2 d3 hc
     | ret q =>
      obtain ⟨r, l'⟩ := q
      rw [h1] at hc
      obtain ⟨X, hX, hc⟩ := hc
      exact (c29tb l a m default default default default 0 default default default default r X d0 d1 d2 d3 hc).rows (by simp) hX
    | false =>
     rw [d3] at ha
     simp only [cond_false] at ha ⊢
     have hc := f29_ok ⟨l⟩ m a h.two d0 d1 d2 d3 h.len (fun e => by rw [e] at ha; exact ha)
     cases h1 : m29 ⟨l⟩ m a with
     | pan v =>
      rw [h1] at hc
      exact CallOk.softL (i := 0) (c := 0) (cs := [.oa [] 5 (V.o1s l)]) (by simp) rfl (by simp) rfl rfl (RowsVt.o1s l).soft hc
     | ret r =>
      rw [h1] at hc
      exact CallOk.softL (i := 0) (c := 0) (cs := [.oa [] 5 (V.o1s l)]) (by simp) rfl (by simp) rfl rfl (RowsVt.o1s l).soft hc
end Go.Bm
set_option maxHeartbeats 4000000
namespace Go.Bm
open Go Go.Proofs
def c5 (y : V) (m : M) : List M := [.t (.s (.int .i64 y.k)), .t (.s (.int .i64 y.i)), .t (.f y.f), .t (.s (.string y.s)), m]
theorem oc_eq (y : V) : y.oc = c5 y (.oa [] 5 (V.ocs y.l)) := by cases y; rfl
theorem oc_noH (k : Nat) (y : V) : hasHs k y.oc = false := by cases y; rfl
theorem ocs_noH {k : Nat} (l : List V) : ∀ ds, ds ∈ V.ocs l → hasHs k ds = false := fun ds hd => by
 rw [V.ocs_map] at hd
 obtain ⟨y, _, rfl⟩ := List.mem_map.1 hd
 exact oc_noH k y
theorem ocs_set (s : List V) (y : V) (r : List M) : (V.ocs s ++ [r]).set s.length (c5 y (.oa [] 5 (V.ocs y.l))) = V.ocs (s ++ [y]) := by
 rw [V.ocs_map (s ++ [y]), V.ocs_map s, List.set_append]
 simp [oc_eq]
theorem ocs_at (s : List V) (r : List M) : (V.ocs s ++ [r])[s.length]? = some r := by
 rw [List.getElem?_append_right (by rw [V.ocs_length]; exact Nat.le_refl _), V.ocs_length]
 simp
def stC (a : V) (n : Nat) (xs : List (List M)) (i : Int) : St := ⟨44, [(2, (.ptr 2 0)), (3, (.ptr 3 0)), (28, (.t (.sl (V.rows a.l)))), (29, (.t (.s (.int .i64 (((V.rows a.l).length : Nat) : Int))))), (30, (.t (.s (.int .i64 i))))], [(2, .os [(.t (.s (.int .i64 0))), (.t (.s (.int .i64 0))), (.t (.f (some 0))), (.t (.s (.string (ByteArray.mk #[])))), (.tight [])]), (3, .os [(.t (.s (.int .i64 4))), (.t (.s (.int .i64 0))), (.t (.f (some 0))), (.t (.s (.string (ByteArray.mk #[])))), (.sb 5039 5 0 n)]), (5039, .oa [] 5 xs)]⟩
def evC (x y : V) (s : List V) : List Ev := [.reg [] [] [2, 3, 28, 29, 30, 31] [2, 3, 5039], .bitK true [] [2, 3, 28, 29, 30] [2, 3, 5039], .reg [.cellsT [(.s (.int .i64 x.k)), (.s (.int .i64 x.i)), (.f x.f), (.s (.string x.s)), (.sl (V.rows x.l))]] [] [2, 3, 5, 28, 29, 30] [2, 3, 5, 5039],
 .drw [[], [], [], [.ret (.ret (.agg (c5 y (.oa [] 5 (V.ocs y.l))))) [] [] 6000], [.mut], [], [], []] [.keep [2, 3, 28, 29, 30] [2, 3, 39, 6000], .shutE 39 s.length 4 6000 (c5 y (.sb 6000 5 0 (V.ocs y.l).length)), .mv 39 5039] [2, 3, 28, 29, 30] [2, 3, 5039], .reg [] [] [2, 3, 28, 29, 30] [2, 3, 5039]]
theorem t2 (a x y : V) (s : List V) (i : Nat) : run Tryz.prog 99 (bodyAt Tryz.f26 [1, 0, 1, 0, 1, 1, 1, 1, 1, 1, 1, 0, 1, 0, 1, 0, 0]) (stC a s.length (V.ocs s) ((i : Nat) : Int)) (evC x y s) =
  some ⟨.normal, stC a (s.length + 1) ((V.ocs s ++ [c5 y (.sb 6000 5 0 (V.ocs y.l).length)]).set s.length (c5 y (.oa [] 5 (V.ocs y.l)))) (IntKind.i64.wrap (((i : Nat) : Int) + 1)), [],
   [(26, [(.agg [(.t (.s (.int .i64 x.k))), (.t (.s (.int .i64 x.i))), (.t (.f x.f)), (.t (.s (.string x.s))), (.t (.sl (V.rows x.l)))])], [], .ret (.agg (c5 y (.oa [] 5 (V.ocs y.l)))), [])],
   [decide (((i : Nat) : Int) < (((V.rows a.l).length : Nat) : Int)) = true, 0 ≤ ((i : Nat) : Int), (V.rows a.l)[((i : Nat) : Int).toNat]? = some [(.s (.int .i64 x.k)), (.s (.int .i64 x.i)), (.f x.f), (.s (.string x.s)), (.sl (V.rows x.l))],
    s.length = (V.ocs s).length, 1 = 1, (s.length + 1) * 64 ≤ 140737488355328, s.length + 1 ≤ 274877906944,
    (V.ocs s ++ [c5 y (.sb 6000 5 0 (V.ocs y.l).length)])[s.length]? = some (c5 y (.sb 6000 5 0 (V.ocs y.l).length)),
    (∀ ds, ds ∈ (V.ocs s ++ [c5 y (.sb 6000 5 0 (V.ocs y.l).length)]).set s.length (c5 y (.oa [] 5 (V.ocs y.l))) → hasHs 6000 ds = false),
    (V.ocs y.l).length = (V.ocs y.l).length]⟩ := by kernel_rfl
theorem f26o_ok (a : V) : CallOk Tryz.prog 26 [(.agg [(.t (.s (.int .i64 a.k))), (.t (.s (.int .i64 a.i))), (.t (.f a.f)), (.t (.s (.string a.s))), (.t (.sl (V.rows a.l)))])] [] (.ret (.agg (V.clean a).oc)) [] := by
 refine V.induct (p := fun a => CallOk Tryz.prog 26 [(.agg [(.t (.s (.int .i64 a.k))), (.t (.s (.int .i64 a.i))), (.t (.f a.f)), (.t (.s (.string a.s))), (.t (.sl (V.rows a.l)))])] [] (.ret (.agg (V.clean a).oc)) []) ?_ a; intro a ih
 rw [vclean_eq26 a]
 refine CallOk.short fun hsh => ?_
 cases h1 : (a.k == (1 : Int))
 ·cases h2 : (a.k == (2 : Int))
  ·cases h3 : (a.k == (3 : Int))
   ·cases h4 : (a.k == (4 : Int))
    ·have hr : m26 a = (V.mk 0 0 (some 0) (ByteArray.mk #[]) []) := by simp only [m26, h1, h2, h3, h4, cond_true, cond_false]
     rw [hr]
     simp only [V.oc, V.ocs]
     have hrun : runF Tryz.prog 99 Tryz.f26 [(.agg [(.t (.s (.int .i64 a.k))), (.t (.s (.int .i64 a.i))), (.t (.f a.f)), (.t (.s (.string a.s))), (.t (.sl (V.rows a.l)))])] [] [] [.reg [] [] [1, 2] [1, 2], .reg [] [] [1, 2, 7] [1, 2], .reg [] [] [1, 2, 7, 8] [1, 2], .bitK false [] [1, 2, 7] [1, 2], .reg [] [] [1, 2, 7, 13] [1, 2], .bitK false [] [1, 2, 7] [1, 2], .reg [] [] [1, 2, 7, 19] [1, 2], .bitK false [] [1, 2, 7] [1, 2], .reg [] [] [1, 2, 24] [1, 2], .bitK false [] [2] [2], .reg [] [.armO 2 4 7000 5] [2] [2, 7000]] = some ⟨.ret (.agg [(.t (.s (.int .i64 0))), (.t (.s (.int .i64 0))), (.t (.f (some 0))), (.t (.s (.string (ByteArray.mk #[])))), (.oa [] 5 [])]), [], [], [(a.k == (1 : Int)) = false, (a.k == (2 : Int)) = false, (a.k == (3 : Int)) = false, (a.k == (4 : Int)) = false, (0 : Nat) = ([] : List (List M)).length]⟩ := by kernel_rfl
     exact callOk_of 99 Tryz.func26 (by kernel_rfl) hrun
      (by clear hrun; exact (ps_cons h1 (ps_cons h2 (ps_cons h3 (ps_cons h4 (ps_cons rfl ps_nil)))))) (by clear hrun; exact cs_nil)
    ·have hr : m26 a = (V.mk 4 0 (some 0) (ByteArray.mk #[]) (lp2 (m26_b0 a) a.l 0 ([]))) := by simp only [m26, h1, h2, h3, h4, cond_true, cond_false]
     rw [hr]
     simp only [V.oc, V.ocs]
     have hlen : a.l.length ≤ 274877906944 := (V.short_of hsh.1).len
     have hl1 : W Tryz.prog (bodyAt Tryz.f26 [1, 0, 1, 0, 1, 1, 1, 1, 1, 1, 1, 0, 1, 0, 1, 0]) ⟨44, [(2, (.ptr 2 0)), (3, (.ptr 3 0)), (28, (.t (.sl (V.rows a.l)))), (29, (.t (.s (.int .i64 (((V.rows a.l).length : Nat) : Int))))), (30, (.t (.s (.int .i64 0))))], [(2, .os [(.t (.s (.int .i64 0))), (.t (.s (.int .i64 0))), (.t (.f (some 0))), (.t (.s (.string (ByteArray.mk #[])))), (.tight [])]), (3, .os [(.t (.s (.int .i64 4))), (.t (.s (.int .i64 0))), (.t (.f (some 0))), (.t (.s (.string (ByteArray.mk #[])))), (.sb 5039 5 0 0)]), (5039, .oa [] 5 [])]⟩ (One (.exit 1) ((fun (i : Nat) (s : (List V)) => (⟨44, [(2, (.ptr 2 0)), (3, (.ptr 3 0))], [(2, .os [(.t (.s (.int .i64 0))), (.t (.s (.int .i64 0))), (.t (.f (some 0))), (.t (.s (.string (ByteArray.mk #[])))), (.tight [])]), (3, .os [(.t (.s (.int .i64 4))), (.t (.s (.int .i64 0))), (.t (.f (some 0))), (.t (.s (.string (ByteArray.mk #[])))), (.sb 5039 5 0 s.length)]), (5039, .oa [] 5 (V.ocs s))]⟩ : St)) a.l.length (lp2 (m26_b0 a) a.l 0 ([])))) := by
      refine lp2_W (e := (.exit 1)) (c := bodyAt Tryz.f26 [1, 0, 1, 0, 1, 1, 1, 1, 1, 1, 1, 0, 1, 0, 1, 0, 0]) a.l (fun (i : Nat) (s : (List V)) => (⟨44, [(2, (.ptr 2 0)), (3, (.ptr 3 0)), (28, (.t (.sl (V.rows a.l)))), (29, (.t (.s (.int .i64 (((V.rows a.l).length : Nat) : Int))))), (30, (.t (.s (.int .i64 ((i : Nat) : Int)))))], [(2, .os [(.t (.s (.int .i64 0))), (.t (.s (.int .i64 0))), (.t (.f (some 0))), (.t (.s (.string (ByteArray.mk #[])))), (.tight [])]), (3, .os [(.t (.s (.int .i64 4))), (.t (.s (.int .i64 0))), (.t (.f (some 0))), (.t (.s (.string (ByteArray.mk #[])))), (.sb 5039 5 0 s.length)]), (5039, .oa [] 5 (V.ocs s))]⟩ : St)) (fun (i : Nat) (s : (List V)) => (⟨44, [(2, (.ptr 2 0)), (3, (.ptr 3 0))], [(2, .os [(.t (.s (.int .i64 0))), (.t (.s (.int .i64 0))), (.t (.f (some 0))), (.t (.s (.string (ByteArray.mk #[])))), (.tight [])]), (3, .os [(.t (.s (.int .i64 4))), (.t (.s (.int .i64 0))), (.t (.f (some 0))), (.t (.s (.string (ByteArray.mk #[])))), (.sb 5039 5 0 s.length)]), (5039, .oa [] 5 (V.ocs s))]⟩ : St)) (m26_b0 a) (fun (i : Nat) (s : (List V)) => (s.length ≤ i : Prop)) ([]) (by simp) (by kernel_rfl) (by simp) ?_ ?_
      ·intro s hI
       have hrun : run Tryz.prog 99 (bodyAt Tryz.f26 [1, 0, 1, 0, 1, 1, 1, 1, 1, 1, 1, 0, 1, 0, 1, 0, 0]) ⟨44, [(2, (.ptr 2 0)), (3, (.ptr 3 0)), (28, (.t (.sl (V.rows a.l)))), (29, (.t (.s (.int .i64 (((V.rows a.l).length : Nat) : Int))))), (30, (.t (.s (.int .i64 ((a.l.length : Nat) : Int)))))], [(2, .os [(.t (.s (.int .i64 0))), (.t (.s (.int .i64 0))), (.t (.f (some 0))), (.t (.s (.string (ByteArray.mk #[])))), (.tight [])]), (3, .os [(.t (.s (.int .i64 4))), (.t (.s (.int .i64 0))), (.t (.f (some 0))), (.t (.s (.string (ByteArray.mk #[])))), (.sb 5039 5 0 s.length)]), (5039, .oa [] 5 (V.ocs s))]⟩ [.reg [] [] [2, 3, 28, 29, 30, 31] [2, 3, 5039], .bitK false [] [2, 3] [2, 3, 5039]] = some ⟨(.exit 1), ⟨44, [(2, (.ptr 2 0)), (3, (.ptr 3 0))], [(2, .os [(.t (.s (.int .i64 0))), (.t (.s (.int .i64 0))), (.t (.f (some 0))), (.t (.s (.string (ByteArray.mk #[])))), (.tight [])]), (3, .os [(.t (.s (.int .i64 4))), (.t (.s (.int .i64 0))), (.t (.f (some 0))), (.t (.s (.string (ByteArray.mk #[])))), (.sb 5039 5 0 s.length)]), (5039, .oa [] 5 (V.ocs s))]⟩, [], [], [(decide (((a.l.length : Nat) : Int) < (((V.rows a.l).length : Nat) : Int))) = false]⟩ := by kernel_rfl
       exact W.of_run (P := Tryz.prog) 99 hrun
        (by clear hrun; exact (ps_cons (lt_ff (V.rows_length _)) ps_nil)) (by clear hrun; exact cs_nil)
      ·intro i x s hx hi hI
       have hb : (m26_b0 a) x i s = (s ++ [(V.clean x)]) := by simp only [m26_b0]
       rw [hb]
       have hrun := t2 a x (V.clean x) s i
       have eS : (V.ocs s ++ [c5 (V.clean x) (.sb 6000 5 0 (V.ocs (V.clean x).l).length)]).set s.length (c5 (V.clean x) (.oa [] 5 (V.ocs (V.clean x).l))) = V.ocs (s ++ [V.clean x]) := ocs_set s _ _
       have hr := W.of_run (P := Tryz.prog) 99 hrun
        (by clear hrun; exact (ps_cons (lt_tt hi (V.rows_length _)) (ps_cons (Int.natCast_nonneg _) (ps_cons (V.rows_at hx) (ps_cons (V.ocs_length s).symm (ps_cons rfl (ps_cons (by omega) (ps_cons (by omega) (ps_cons (ocs_at s _) (ps_cons (by rw [eS]; exact ocs_noH _) (ps_cons rfl ps_nil)))))))))))
        (by clear hrun; exact (cs_cons (by have hc := ih x (List.mem_of_getElem? hx); rw [oc_eq] at hc; exact hc) cs_nil))
       clear hrun
       rw [wrap_succ hi hlen, eS, show s.length + 1 = (s ++ [V.clean x]).length by simp] at hr
       exact ⟨hr, (by simp only [List.length_append, List.length_cons, List.length_nil] at *; omega)⟩
     have hrun : runF Tryz.prog 99 Tryz.f26 [(.agg [(.t (.s (.int .i64 a.k))), (.t (.s (.int .i64 a.i))), (.t (.f a.f)), (.t (.s (.string a.s))), (.t (.sl (V.rows a.l)))])] [] [] [.reg [] [] [1, 2] [1, 2], .reg [] [] [1, 2, 7] [1, 2], .reg [] [] [1, 2, 7, 8] [1, 2], .bitK false [] [1, 2, 7] [1, 2], .reg [] [] [1, 2, 7, 13] [1, 2], .bitK false [] [1, 2, 7] [1, 2], .reg [] [] [1, 2, 7, 19] [1, 2], .bitK false [] [1, 2, 7] [1, 2], .reg [] [] [1, 2, 24] [1, 2], .bitK true [] [1, 2] [1, 2], .reg [] [] [1, 2, 3] [1, 2, 3], .reg [] [.armO 3 4 5039 5] [2, 3, 28, 29, 30] [2, 3, 5039], .cut (.exit 1) ⟨44, [(2, (.ptr 2 0)), (3, (.ptr 3 0))], [(2, .os [(.t (.s (.int .i64 0))), (.t (.s (.int .i64 0))), (.t (.f (some 0))), (.t (.s (.string (ByteArray.mk #[])))), (.tight [])]), (3, .os [(.t (.s (.int .i64 4))), (.t (.s (.int .i64 0))), (.t (.f (some 0))), (.t (.s (.string (ByteArray.mk #[])))), (.sb 5039 5 0 (lp2 (m26_b0 a) a.l 0 ([])).length)]), (5039, .oa [] 5 (V.ocs (lp2 (m26_b0 a) a.l 0 ([]))))]⟩, .reg [] [] [2] [2, 5039]] = some ⟨.ret (.agg [(.t (.s (.int .i64 4))), (.t (.s (.int .i64 0))), (.t (.f (some 0))), (.t (.s (.string (ByteArray.mk #[])))), (.oa [] 5 (V.ocs (lp2 (m26_b0 a) a.l 0 ([]))))]), [], [], [(a.k == (1 : Int)) = false, (a.k == (2 : Int)) = false, (a.k == (3 : Int)) = false, (a.k == (4 : Int)) = true, W Tryz.prog (bodyAt Tryz.f26 [1, 0, 1, 0, 1, 1, 1, 1, 1, 1, 1, 0, 1, 0, 1, 0]) ⟨44, [(2, (.ptr 2 0)), (3, (.ptr 3 0)), (28, (.t (.sl (V.rows a.l)))), (29, (.t (.s (.int .i64 (((V.rows a.l).length : Nat) : Int))))), (30, (.t (.s (.int .i64 0))))], [(2, .os [(.t (.s (.int .i64 0))), (.t (.s (.int .i64 0))), (.t (.f (some 0))), (.t (.s (.string (ByteArray.mk #[])))), (.tight [])]), (3, .os [(.t (.s (.int .i64 4))), (.t (.s (.int .i64 0))), (.t (.f (some 0))), (.t (.s (.string (ByteArray.mk #[])))), (.sb 5039 5 0 0)]), (5039, .oa [] 5 [])]⟩ (One (.exit 1) ⟨44, [(2, (.ptr 2 0)), (3, (.ptr 3 0))], [(2, .os [(.t (.s (.int .i64 0))), (.t (.s (.int .i64 0))), (.t (.f (some 0))), (.t (.s (.string (ByteArray.mk #[])))), (.tight [])]), (3, .os [(.t (.s (.int .i64 4))), (.t (.s (.int .i64 0))), (.t (.f (some 0))), (.t (.s (.string (ByteArray.mk #[])))), (.sb 5039 5 0 (lp2 (m26_b0 a) a.l 0 ([])).length)]), (5039, .oa [] 5 (V.ocs (lp2 (m26_b0 a) a.l 0 ([]))))]⟩), (lp2 (m26_b0 a) a.l 0 ([])).length = (V.ocs (lp2 (m26_b0 a) a.l 0 ([]))).length]⟩ := by kernel_rfl
     exact callOk_of 99 Tryz.func26 (by kernel_rfl) hrun
      (by clear hrun; exact (ps_cons h1 (ps_cons h2 (ps_cons h3 (ps_cons h4 (ps_cons hl1 (ps_cons (V.ocs_length _).symm ps_nil))))))) (by clear hrun; exact cs_nil)
   ·have hr : m26 a = (V.mk 3 0 (some 0) a.s []) := by simp only [m26, h1, h2, h3, cond_true, cond_false]
    rw [hr]
    simp only [V.oc, V.ocs]
    have hrun : runF Tryz.prog 99 Tryz.f26 [(.agg [(.t (.s (.int .i64 a.k))), (.t (.s (.int .i64 a.i))), (.t (.f a.f)), (.t (.s (.string a.s))), (.t (.sl (V.rows a.l)))])] [] [] [.reg [] [] [1, 2] [1, 2], .reg [] [] [1, 2, 7] [1, 2], .reg [] [] [1, 2, 7, 8] [1, 2], .bitK false [] [1, 2, 7] [1, 2], .reg [] [] [1, 2, 7, 13] [1, 2], .bitK false [] [1, 2, 7] [1, 2], .reg [] [] [1, 2, 7, 19] [1, 2], .bitK true [] [1, 2] [1, 2], .reg [] [.armO 2 4 7000 5] [2] [2, 7000]] = some ⟨.ret (.agg [(.t (.s (.int .i64 3))), (.t (.s (.int .i64 0))), (.t (.f (some 0))), (.t (.s (.string a.s))), (.oa [] 5 [])]), [], [], [(a.k == (1 : Int)) = false, (a.k == (2 : Int)) = false, (a.k == (3 : Int)) = true, (0 : Nat) = ([] : List (List M)).length]⟩ := by kernel_rfl
    exact callOk_of 99 Tryz.func26 (by kernel_rfl) hrun
     (by clear hrun; exact (ps_cons h1 (ps_cons h2 (ps_cons h3 (ps_cons rfl ps_nil))))) (by clear hrun; exact cs_nil)
  ·have hr : m26 a = (V.mk 2 0 (m53 a.f) (ByteArray.mk #[]) []) := by simp only [m26, h1, h2, cond_true, cond_false]
   rw [hr]
   simp only [V.oc, V.ocs]
   have hrun : runF Tryz.prog 99 Tryz.f26 [(.agg [(.t (.s (.int .i64 a.k))), (.t (.s (.int .i64 a.i))), (.t (.f a.f)), (.t (.s (.string a.s))), (.t (.sl (V.rows a.l)))])] [] [] [.reg [] [] [1, 2] [1, 2], .reg [] [] [1, 2, 7] [1, 2], .reg [] [] [1, 2, 7, 8] [1, 2], .bitK false [] [1, 2, 7] [1, 2], .reg [] [] [1, 2, 7, 13] [1, 2], .bitK true [] [1, 2] [1, 2], .reg [.ret (.ret (.t (.f (m53 a.f)))) [] [] 0] [.armO 2 4 7000 5] [2] [2, 7000]] = some ⟨.ret (.agg [(.t (.s (.int .i64 2))), (.t (.s (.int .i64 0))), (.t (.f (m53 a.f))), (.t (.s (.string (ByteArray.mk #[])))), (.oa [] 5 [])]), [], [(53, [(.t (.f a.f))], [], .ret (.t (.f (m53 a.f))), [])], [(a.k == (1 : Int)) = false, (a.k == (2 : Int)) = true, (0 : Nat) = ([] : List (List M)).length]⟩ := by kernel_rfl
   exact callOk_of 99 Tryz.func26 (by kernel_rfl) hrun
    (by clear hrun; exact (ps_cons h1 (ps_cons h2 (ps_cons rfl ps_nil)))) (by clear hrun; exact (cs_cons (f53_ok a.f) cs_nil))
 ·have hr : m26 a = (V.mk 1 a.i (some 0) (ByteArray.mk #[]) []) := by simp only [m26, h1, cond_true, cond_false]
  rw [hr]
  simp only [V.oc, V.ocs]
  have hrun : runF Tryz.prog 99 Tryz.f26 [(.agg [(.t (.s (.int .i64 a.k))), (.t (.s (.int .i64 a.i))), (.t (.f a.f)), (.t (.s (.string a.s))), (.t (.sl (V.rows a.l)))])] [] [] [.reg [] [] [1, 2] [1, 2], .reg [] [] [1, 2, 7] [1, 2], .reg [] [] [1, 2, 7, 8] [1, 2], .bitK true [] [1, 2] [1, 2], .reg [] [.armO 2 4 7000 5] [2] [2, 7000]] = some ⟨.ret (.agg [(.t (.s (.int .i64 1))), (.t (.s (.int .i64 a.i))), (.t (.f (some 0))), (.t (.s (.string (ByteArray.mk #[])))), (.oa [] 5 [])]), [], [], [(a.k == (1 : Int)) = true, (0 : Nat) = ([] : List (List M)).length]⟩ := by kernel_rfl
  exact callOk_of 99 Tryz.func26 (by kernel_rfl) hrun
   (by clear hrun; exact (ps_cons h1 (ps_cons rfl ps_nil))) (by clear hrun; exact cs_nil)
end Go.Bm
