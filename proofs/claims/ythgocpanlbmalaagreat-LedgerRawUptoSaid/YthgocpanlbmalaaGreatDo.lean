import Derived.Test.YthgocpanlbmalaaGreatBk
import Derived.Test.YthgocpanlbmalaaGreatTry
import Derived.Laws.Strings
set_option linter.unusedVariables false
set_option linter.unusedSimpArgs false
/- Package ledger's Do. -/
set_option maxHeartbeats 1000000
namespace Go.Bm
open Go Go.Proofs
theorem lp_true {α : Type} {body : α → Nat → Unit → Rd Bool Unit} (h : ∀ x i s q, body x i s = .ret q → q = false) (ho : ∀ x i s q, body x i s ≠ .out q) : ∀ (l : List α) (i : Nat), (match lp body l i () with | .inl q => q | .inr _ => true) = true → ∀ (j : Nat) (x : α), l[j]? = some x → body x (i + j) () = .next ()
 | [], i, _, j, x, hx => by simp at hx
 | y :: r, i, hm, j, x, hx => by
  simp only [lp] at hm
  cases hb : body y i () with
  | next s =>
   rw [hb] at hm
   cases j with
   | zero => simp at hx; subst hx; rw [Nat.add_zero, hb]
   | succ j =>
    have := lp_true h ho r (i + 1) hm j x (by simpa using hx)
    rw [show i + (j + 1) = i + 1 + j by omega]; exact this
  | out s => exact (ho y i () s hb).elim
  | ret q => rw [hb] at hm; have := h y i () q hb; simp only at hm; rw [this] at hm; cases hm
structure Right15 (s : V) : Prop where
 k : s.k = 4
 len : s.l.length ≤ 32
 row : ∀ (j : Nat) (x : V), s.l[j]? = some x → m40 x = true
 ord : ∀ (j : Nat) (x y : V), s.l[j]? = some x → s.l[j + 1]? = some y → Op.bytesLess (m41 x).toList (m41 y).toList = true
theorem right15 {s : V} (h : m15 s = true) : Right15 s := by
 unfold m15 at h
 cases h1 : (s.k != (4 : Int)) with
 | true => rw [h1] at h; cases h
 | false =>
  rw [h1] at h
  simp only [cond_false] at h
  cases h2 : (decide ((((V.rows s.l).length : Nat) : Int) > (32 : Int))) with
  | true => rw [h2] at h; cases h
  | false =>
   rw [h2] at h
   simp only [cond_false] at h
   have hlen : s.l.length ≤ 32 := by
    have := of_decide_eq_false h2
    rw [V.rows_length] at this
    omega
   have key : ∀ x (i : Nat) (u : Unit), m15_b0 s x i u = .next () ∨ m15_b0 s x i u = .ret false := fun x i u => by
    unfold m15_b0
    cases h4 : m40 x
    ·exact .inr rfl
    ·simp only [cond_true]
     cases h5 : decide (((i : Nat) : Int) > (0 : Int))
     ·exact .inl rfl
     ·simp only [cond_true]
      cases h6 : Op.bytesLess (m41 (s.l[((IntKind.i64.wrap (((i : Nat) : Int) - 1)) : Int).toNat]?.getD default)).toList (m41 x).toList
      ·exact .inr rfl
      ·exact .inl rfl
   have hall := lp_true (body := m15_b0 s) (fun x i u q hq => by
    rcases key x i u with e | e <;> rw [e] at hq <;> cases hq
    rfl) (fun x i u q hq => by
    rcases key x i u with e | e <;> rw [e] at hq <;> cases hq) s.l 0 (by
    cases hq : lp (m15_b0 s) s.l 0 () with
    | inl q => rw [hq] at h; exact h
    | inr q => rfl)
   refine ⟨by simpa using h1, hlen, fun j x hx => ?_, fun j x y hx hy => ?_⟩
   ·have := hall j x hx
    unfold m15_b0 at this
    cases h4 : m40 x with
    | true => rfl
    | false => rw [h4] at this; cases this
   ·have := hall (j + 1) y hy
    unfold m15_b0 at this
    cases h4 : m40 y with
    | false => rw [h4] at this; cases this
    | true =>
     rw [h4] at this
     have hj : j + 1 < s.l.length := (List.getElem?_eq_some_iff.1 hy).1
     have hd : decide (((0 + (j + 1) : Nat) : Int) > (0 : Int)) = true := by simp
     have hw : (IntKind.i64.wrap (((0 + (j + 1) : Nat) : Int) - 1)).toNat = j := by
      rw [IntKind.wrap_i64]; omega
     simp only [cond_true, hd, hw, hx, Option.getD_some] at this
     cases h5 : Op.bytesLess (m41 x).toList (m41 y).toList with
     | true => rfl
     | false => rw [h5] at this; cases this
structure Row40 (x : V) : Prop where
 k : x.k = 4
 len : x.l.length = 2
 name : m74 (x.l[0]?.getD default) = true
 fk : (x.l[1]?.getD default).k = 2
 fin : m75 (x.l[1]?.getD default) = true
 ge : (fo ((x.l[1]?.getD default).f) (some 0) == some .gt || fo ((x.l[1]?.getD default).f) (some 0) == some .eq) = true
 sgn : m76 ((x.l[1]?.getD default).f) = false
theorem row40 {x : V} (h : m40 x = true) : Row40 x := by
 unfold m40 at h
 cases h1 : (x.k != (4 : Int)) with
 | true => rw [h1] at h; cases h
 | false =>
  rw [h1] at h; simp only [cond_false] at h
  cases h2 : ((((V.rows x.l).length : Nat) : Int) != (2 : Int)) with
  | true => rw [h2] at h; cases h
  | false =>
   rw [h2] at h; simp only [cond_false] at h
   cases h3 : m74 (x.l[0]?.getD default) with
   | false => rw [h3] at h; cases h
   | true =>
    rw [h3] at h; simp only [cond_true] at h
    cases h4 : ((x.l[1]?.getD default).k != (2 : Int)) with
    | true => rw [h4] at h; cases h
    | false =>
     rw [h4] at h; simp only [cond_false] at h
     cases h5 : m75 (x.l[1]?.getD default) with
     | false => rw [h5] at h; cases h
     | true =>
      rw [h5] at h; simp only [cond_true] at h
      cases h6 : (fo ((x.l[1]?.getD default).f) (some 0) == some .gt || fo ((x.l[1]?.getD default).f) (some 0) == some .eq) with
      | false => rw [h6] at h; cases h
      | true =>
       rw [h6] at h; simp only [cond_true] at h
       have h2' : x.l.length = 2 := by simp [V.rows_length] at h2; exact_mod_cast h2
       exact ⟨by simpa using h1, h2', h3, by simpa using h4, h5, h6, by simpa using h⟩
theorem cleans_map : ∀ l : List V, V.cleans l = l.map V.clean
 | [] => rfl
 | x :: r => by simp only [V.cleans, List.map_cons, cleans_map r]
theorem clean_list {x : V} (h : x.k = 4) : V.clean x = V.mk 4 0 (some 0) (ByteArray.mk #[]) (x.l.map V.clean) := by
 obtain ⟨k, i, f, s, l⟩ := x
 simp only [V.k] at h
 subst h
 simp [V.clean, cleans_map, V.l]
theorem right_book {s : V} (h : m15 s = true) : BkOk (V.clean s).l := by
 have hr := right15 h
 rw [clean_list hr.k]
 refine ⟨?_, fun x hx => ?_⟩
 ·show (s.l.map V.clean).length ≤ _
  rw [List.length_map]; have := hr.len; omega
 ·change x ∈ s.l.map V.clean at hx
  obtain ⟨y, hy, rfl⟩ := List.mem_map.1 hx
  obtain ⟨j, hj⟩ := List.getElem?_of_mem hy
  have h40 := row40 (hr.row j y hj)
  rw [clean_list h40.k]
  show 1 < (y.l.map V.clean).length
  rw [List.length_map, h40.len]; decide
def isW (v : Value) : Prop := ∃ e : Int, e ≠ 0 ∧ v = .iface 86 (.agg #[.int .i64 e])
theorem w57 {b : Bool} {e : Int} {v : Value} (he : e ≠ 0) (h : m57 b e = .pan v) : isW v := by
 cases b with
 | true => cases h
 | false => simp only [m57, cond_false, Ou.pan.injEq] at h; exact ⟨e, he, h.symm⟩
theorem w56 {l : QLedgerBook} {y : V} {v : Value} (h : m56 l y = .pan v) : isW v := by
 unfold m56 at h
 split at h
 ·rename_i q hq; cases h; exact w57 (by decide) hq
 ·cases h
theorem w59 {a : V} {v : Value} (h : m59 a = .pan v) : isW v := by
 unfold m59 at h
 cases h1 : m75 a with
 | true =>
  rw [h1] at h; simp only [cond_true] at h
  split at h
  ·rename_i q hq; cases h; exact w57 (by decide) hq
  ·cases h
 | false =>
  rw [h1] at h; simp only [cond_false] at h
  split at h
  ·rename_i q hq; cases h; exact w57 (by decide) hq
  ·cases h
theorem w60 {l : QLedgerBook} {i : Int} {n : V} {v : Value} (h : m60 l i n = .pan v) : isW v := by
 unfold m60 at h
 split at h
 ·rename_i q hq; cases h; exact w57 (by decide) hq
 ·cases h
theorem wopn {l : List V} {y : V} {v : Value} (h : opnB l y = .pan v) : isW v := by
 unfold opnB at h
 split at h
 ·rename_i q hq; cases h; exact w57 (by decide) hq
 ·split at h
  ·rename_i q hq; cases h; exact w57 (by decide) hq
  ·cases h
theorem wmov {l : List V} {a0 a1 a2 : V} {v : Value} (h : movB l a0 a1 a2 = .pan v) : isW v := by
 unfold movB at h
 split at h
 ·rename_i q hq; cases h; exact w59 hq
 ·split at h
  ·rename_i q hq; cases h; exact w56 hq
  ·split at h
   ·rename_i q hq; cases h; exact w56 hq
   ·split at h
    ·rename_i q hq; cases h; exact w57 (by decide) hq
    ·rw [cond_eq_ite] at h
     split at h
     ·cases h
     ·split at h
      ·rename_i q hq; cases h; exact w60 hq
      ·cases h
theorem w29 {l : QLedgerBook} {m : ByteArray} {a : List V} {v : Value} (h : m29 l m a = .pan v) : isW v := by
 unfold m29 at h
 cases hb : (m.toList == (ByteArray.mk #[98, 97, 108, 97, 110, 99, 101]).toList) <;> rw [hb] at h
 ·simp only [cond_false] at h
  cases hb2 : (m.toList == (ByteArray.mk #[110, 97, 109, 101, 115]).toList) <;> rw [hb2] at h
  ·simp only [cond_false] at h
   cases hb3 : (m.toList == (ByteArray.mk #[116, 111, 116, 97, 108]).toList) <;> rw [hb3] at h <;> cases h
  ·cases h
 ·simp only [cond_true] at h
  split at h
  ·rename_i q hq; cases h; exact w56 hq
  ·cases h
theorem wdo {l : List V} {m : ByteArray} {a : List V} {v : Value} (h : doB l m a = .pan v) : isW v := by
 unfold doB at h
 cases d0 : (m.toList == (ByteArray.mk #[111, 112, 101, 110]).toList) <;> rw [d0] at h
 ·simp only [cond_false] at h
  cases d1 : (m.toList == (ByteArray.mk #[99, 108, 111, 115, 101]).toList) <;> rw [d1] at h
  ·simp only [cond_false] at h
   cases d2 : (m.toList == (ByteArray.mk #[100, 101, 112, 111, 115, 105, 116]).toList) <;> rw [d2] at h
   ·simp only [cond_false] at h
    cases d3 : (m.toList == (ByteArray.mk #[116, 114, 97, 110, 115, 102, 101, 114]).toList) <;> rw [d3] at h
    ·simp only [cond_false] at h
     split at h
     ·rename_i q hq; cases h; exact w29 hq
     ·cases h
    ·exact wmov h
   ·simp only [cond_true] at h
    split at h
    ·rename_i q hq; cases h; exact w59 hq
    ·split at h
     ·rename_i q hq; cases h; exact w56 hq
     ·split at h
      ·rename_i q hq; cases h; exact w60 hq
      ·cases h
  ·simp only [cond_true] at h
   split at h
   ·rename_i q hq; cases h; exact w56 hq
   ·split at h
    ·rename_i q hq; cases h; exact w57 (by decide) hq
    ·cases h
 ·simp only [cond_true] at h
  split at h
  ·rename_i q hq; cases h; exact wopn hq
  ·cases h
def errOf : Value → Int
 | .iface _ (.agg #[.int _ e]) => e
 | _ => 0
def LG : ByteArray := ByteArray.mk #[108, 101, 100, 103, 101, 114]
theorem m81_lg : m81 LG = [(QArgsMethod.mk (ByteArray.mk #[98, 97, 108, 97, 110, 99, 101]) (ByteArray.mk #[110]) false), (QArgsMethod.mk (ByteArray.mk #[99, 108, 111, 115, 101]) (ByteArray.mk #[110]) true), (QArgsMethod.mk (ByteArray.mk #[100, 101, 112, 111, 115, 105, 116]) (ByteArray.mk #[110, 102]) true), (QArgsMethod.mk (ByteArray.mk #[110, 97, 109, 101, 115]) (ByteArray.mk #[]) false), (QArgsMethod.mk (ByteArray.mk #[111, 112, 101, 110]) (ByteArray.mk #[110]) true), (QArgsMethod.mk (ByteArray.mk #[116, 111, 116, 97, 108]) (ByteArray.mk #[]) false), (QArgsMethod.mk (ByteArray.mk #[116, 114, 97, 110, 115, 102, 101, 114]) (ByteArray.mk #[110, 110, 102]) true)] := by
 simp [m81, LG, ByteArray.toList_eq]
theorem beq_sw (x y : List UInt8) : (x == y) = (y == x) := by
 cases h : y == x
 ·rw [beq_eq_false_iff_ne] at h ⊢; exact fun e => h e.symm
 ·rw [beq_iff_eq] at h; subst h; exact beq_self_eq_true _
theorem check_len {m : ByteArray} {a : List V} (h : m25 LG m a = 0) : argsN m ≤ a.length := by
 unfold m25 at h
 cases h1 : (m49 LG m).2 with
 | false => rw [h1] at h; simp at h
 | true =>
  rw [h1] at h
  simp only [cond_true] at h
  cases h2 : (m50 ((m49 LG m).1) (((V.rows a).length : Nat) : Int)).2 with
  | false => rw [h2] at h; simp at h
  | true =>
   clear h
   unfold m49 at h1 h2
   rw [m81_lg] at h1 h2
   simp only [lp, m49_b0] at h1 h2
   unfold argsN
   simp only [beq_sw m.toList] at *
   have hk : ∀ q : QArgsMethod, (q.takes.toList == (ByteArray.mk #[115]).toList) = false → (m50 q (((V.rows a).length : Nat) : Int)).2 = true → q.takes.size = a.length := fun q hq hm => by
    unfold m50 at hm
    rw [hq] at hm
    simp only [cond_false] at hm
    have := eq_of_beq hm
    rw [V.rows_length] at this
    omega
   generalize m.toList = t at *
   cases c0 : ((ByteArray.mk #[98, 97, 108, 97, 110, 99, 101]).toList == t) with
   | true =>
    simp only [c0, cond_true] at h2
    have ht := eq_of_beq c0
    subst ht
    have := hk _ (by simp [ByteArray.toList_eq]) h2
    simp [ByteArray.toList_eq]
    exact Nat.le_of_eq this
   | false =>
   simp only [c0, cond_false] at h1 h2
   cases c1 : ((ByteArray.mk #[99, 108, 111, 115, 101]).toList == t) with
   | true =>
    simp only [c1, cond_true] at h2
    have ht := eq_of_beq c1
    subst ht
    have := hk _ (by simp [ByteArray.toList_eq]) h2
    simp [ByteArray.toList_eq]
    exact Nat.le_of_eq this
   | false =>
   simp only [c1, cond_false] at h1 h2
   cases c2 : ((ByteArray.mk #[100, 101, 112, 111, 115, 105, 116]).toList == t) with
   | true =>
    simp only [c2, cond_true] at h2
    have ht := eq_of_beq c2
    subst ht
    have := hk _ (by simp [ByteArray.toList_eq]) h2
    simp [ByteArray.toList_eq]
    exact Nat.le_of_eq this
   | false =>
   simp only [c2, cond_false] at h1 h2
   cases c3 : ((ByteArray.mk #[110, 97, 109, 101, 115]).toList == t) with
   | true =>
    simp only [c3, cond_true] at h2
    have ht := eq_of_beq c3
    subst ht
    have := hk _ (by simp [ByteArray.toList_eq]) h2
    simp [ByteArray.toList_eq]
    done
   | false =>
   simp only [c3, cond_false] at h1 h2
   cases c4 : ((ByteArray.mk #[111, 112, 101, 110]).toList == t) with
   | true =>
    simp only [c4, cond_true] at h2
    have ht := eq_of_beq c4
    subst ht
    have := hk _ (by simp [ByteArray.toList_eq]) h2
    simp [ByteArray.toList_eq]
    exact Nat.le_of_eq this
   | false =>
   simp only [c4, cond_false] at h1 h2
   cases c5 : ((ByteArray.mk #[116, 111, 116, 97, 108]).toList == t) with
   | true =>
    simp only [c5, cond_true] at h2
    have ht := eq_of_beq c5
    subst ht
    have := hk _ (by simp [ByteArray.toList_eq]) h2
    simp [ByteArray.toList_eq]
    done
   | false =>
   simp only [c5, cond_false] at h1 h2
   cases c6 : ((ByteArray.mk #[116, 114, 97, 110, 115, 102, 101, 114]).toList == t) with
   | true =>
    simp only [c6, cond_true] at h2
    have ht := eq_of_beq c6
    subst ht
    have := hk _ (by simp [ByteArray.toList_eq]) h2
    simp [ByteArray.toList_eq]
    exact Nat.le_of_eq this
   | false =>
   simp only [c6, cond_false] at h1 h2
   cases h1
end Go.Bm
/- Package ledger's Do: what it comes to. -/
set_option maxHeartbeats 1000000
namespace Go.Bm
open Go Go.Proofs
def m12 (s : V) (m : ByteArray) (a : List V) : V × V × Int :=
 bif !(m15 s) then (V.zero, V.zero, 31) else
 bif (m25 LG m a != (0 : Int)) then (V.zero, V.zero, m25 LG m a) else
 match doB (V.clean s).l m a with
 | .ret (r, l') => (V.mk 4 0 (some 0) (ByteArray.mk #[]) l', r, 0)
 | .pan v => (V.zero, V.zero, errOf v)
theorem f12_ok (a : V) (b : ByteArray) (c : List V) : CallOk Tryz.prog 12 [(.agg [(.t (.s (.int .i64 a.k))), (.t (.s (.int .i64 a.i))), (.t (.f a.f)), (.t (.s (.string a.s))), (.t (.sl (V.rows a.l)))]), (.t (.s (.string b))), (.t (.sl (V.rows c)))] []
  (.ret (.tup [(.agg [(.t (.s (.int .i64 (m12 a b c).1.k))), (.t (.s (.int .i64 (m12 a b c).1.i))), (.t (.f (m12 a b c).1.f)), (.t (.s (.string (m12 a b c).1.s))), (.t (.sl (V.rows (m12 a b c).1.l)))]),
   (.agg [(.t (.s (.int .i64 (m12 a b c).2.1.k))), (.t (.s (.int .i64 (m12 a b c).2.1.i))), (.t (.f (m12 a b c).2.1.f)), (.t (.s (.string (m12 a b c).2.1.s))), (.t (.sl (V.rows (m12 a b c).2.1.l)))]), (.t (.s (.int .i64 (m12 a b c).2.2)))])) [] := by
 have h15 := f15_ok a
 have h25 := f25_ok LG b c
 unfold m12
 cases h1 : m15 a with
 | false =>
  rw [h1] at h15
  exact c12a a b c [] [] V.zero V.zero false 0 rfl h15
 | true =>
  rw [h1] at h15
  simp only [Bool.not_true, cond_false]
  cases h2 : (m25 LG b c != (0 : Int)) with
  | true => exact c12b a b c [] [] V.zero V.zero true (m25 LG b c) rfl h2 h15 h25
  | false =>
   simp only [cond_false]
   have h0 : m25 LG b c = 0 := by simpa using h2
   have hbk := right_book h1
   have h26 : CallOk Tryz.prog 26 [(.agg [(.t (.s (.int .i64 a.k))), (.t (.s (.int .i64 a.i))), (.t (.f a.f)), (.t (.s (.string a.s))), (.t (.sl (V.rows a.l)))])] [] (.ret (.agg (V.clean a).book)) [] := (f26o_ok a).soft (V.oc_book _)
   have h29 := f29b hbk (check_len h0)
   cases h3 : doB (V.clean a).l b c with
   | pan v =>
    rw [h3] at h29
    obtain ⟨e, he, rfl⟩ := wdo h3
    have h27 := f27_ok (.inr rfl) (c28a _ [] c b V.zero _ h29)
    exact c12c a b c (V.clean a).l [] V.zero (V.clean a) true e (m25 LG b c) rfl h2 (by simpa using he) h15 h25 h26 h27
   | ret q =>
    obtain ⟨r, l'⟩ := q
    rw [h3] at h29
    have h27 := f27_ok (.inl ⟨rfl, rfl⟩) (c28b _ l' c b r default h29)
    -- the answer is the closure's; the state is the book's
    exact c12d a b c (V.clean a).l l' r (V.clean a) true (m25 LG b c) rfl h2 rfl h15 h25 h26 h27
end Go.Bm
/- Facts of floats: what is finite, nought and a number, what is left. -/
namespace Go.Bm
open Ieee
abbrev FF : Format := FloatKind.f64.format
def isNum : Option Nat → Bool
 | none => false
 | some b => match FF.read b with
  | .number .. => true
  | _ => false
theorem read_num {b : Nat} {s : Bool} {m : Nat} {i : Int} (h : FF.read b = .number s m i) : FF.leastPlace ≤ i := by
 unfold Format.read at h
 simp only at h
 split at h
 ·injection h with _ _ h; omega
 ·split at h
  ·injection h with _ _ h; omega
  ·split at h <;> cases h
theorem read_zero : FF.read 0 = .number false 0 FF.leastPlace := by decide
theorem signed_zero (s : Bool) (m : Nat) : signed s m 0 + signed (!s) m 0 = 0 := by
 cases s <;> simp [signed] <;> omega
theorem fo_self (f : Option Nat) : (fo f f != some .eq) = (match f with | none => true | some b => (FF.read b).isNaN) := by
 cases f with
 | none => rfl
 | some b =>
  simp only [fo]
  show (Datum.order (FF.read b) (FF.read b) != some .eq) = _
  cases h : FF.read b with
  | number s m i => simp [Datum.order, Datum.isNaN]
  | infinity s => simp [Datum.order, Datum.isNaN]
  | nan s t => simp [Datum.order, Datum.isNaN]
theorem sub_self_num (f : Option Nat) : (fo (fa FloatKind.f64.format.sub f f) (some 0) == some .eq) = isNum f := by
 cases f with
 | none => rfl
 | some b =>
  show (fo (((FF.read b).sum (FF.read b).opposite).map FF.write) (some 0) == some .eq) = isNum (some b)
  unfold isNum
  simp only
  cases h : FF.read b with
  | number s m i =>
   have e : Datum.sum (.number s m i) (Datum.opposite (.number s m i)) = some (.number false 0 i) := by
    simp only [Datum.sum, Datum.opposite, Int.min_self, Int.sub_self, Int.toNat_zero, signed_zero]
    cases s <;> rfl
   rw [e]
   have hw : FF.write (.number false 0 i) = 0 := rfl
   simp only [Option.map_some, hw]
   decide
  | infinity s =>
   have e : Datum.sum (.infinity s) (Datum.opposite (.infinity s)) = none := by cases s <;> rfl
   rw [e]; rfl
  | nan s t =>
   have e : Datum.sum (.nan s t) (Datum.opposite (.nan s t)) = none := rfl
   rw [e]; rfl
end Go.Bm
/- Facts of floats: the program's own tests. -/
namespace Go.Bm
open Go Go.Proofs Ieee
theorem cmp_int (a b : Int) : compare a b = if a < b then .lt else if a = b then .eq else .gt := rfl
theorem cmp_gt {a b : Int} (h : compare a b = .gt) : b < a := by
 rw [cmp_int] at h
 split at h
 ·cases h
 ·split at h
  ·cases h
  ·omega
theorem cmp_lt {a b : Int} (h : compare a b = .lt) : a < b := by
 rw [cmp_int] at h
 split at h
 ·assumption
 ·split at h <;> cases h
theorem sw : FF.signWeight = 9223372036854775808 := by decide
theorem ir : FF.infRung = 9218868437227405312 := by decide
theorem bn : FF.binade = 4503599627370496 := by decide
theorem lpl : FF.leastPlace = -1074 := by decide
theorem m111_some (b : Nat) : m111 (some b) = some (b % 9223372036854775808) := by
 unfold m111 m80 m47 bitsOf
 simp only [Option.getD_some]
 congr 1
 have e : (BitVec.ofInt IntKind.u64.bits ((b : Nat) : Int) &&& ~~~ BitVec.ofInt IntKind.u64.bits 9223372036854775808).toNat = b % 9223372036854775808 := by
  show (BitVec.ofInt 64 ((b : Nat) : Int) &&& ~~~ BitVec.ofInt 64 9223372036854775808).toNat = _
  rw [BitVec.toNat_and]
  have e1 : (BitVec.ofInt 64 ((b : Nat) : Int)).toNat = b % 2 ^ 64 := by
   rw [BitVec.ofInt_natCast, BitVec.toNat_ofNat]
  have e2 : (~~~ BitVec.ofInt 64 9223372036854775808).toNat = 2 ^ 63 - 1 := by decide
  rw [e1, e2, Nat.and_two_pow_sub_one_eq_mod]
  omega
 rw [e]
 have hw : IntKind.u64.wrap ((b % 9223372036854775808 : Nat) : Int) = ((b % 9223372036854775808 : Nat) : Int) := by
  have e : ∀ n : Int, IntKind.u64.wrap n = n % 18446744073709551616 := fun n => by simp [IntKind.wrap, IntKind.signed, IntKind.bits]
  rw [e]; omega
 rw [hw]
 rfl
theorem read_cases (b : Nat) : (b % FF.signWeight < FF.infRung ∧ ∃ m i, FF.read b = .number (b / FF.signWeight % 2 == 1) m i ∧ m < 2 * FF.binade ∧ i ≤ FF.leastPlace + 2045) ∨ (b % FF.signWeight = FF.infRung ∧ FF.read b = .infinity (b / FF.signWeight % 2 == 1)) ∨
  (FF.infRung < b % FF.signWeight ∧ ∃ t, FF.read b = .nan (b / FF.signWeight % 2 == 1) t) := by
 unfold Format.read
 simp only
 by_cases h1 : b % FF.signWeight < FF.binade
 ·rw [if_pos h1]
  refine .inl ⟨?_, _, _, rfl, by omega, by omega⟩
  rw [bn] at h1; rw [ir]; omega
 ·rw [if_neg h1]
  by_cases h2 : b % FF.signWeight < FF.infRung
  ·rw [if_pos h2]
   refine .inl ⟨h2, _, _, rfl, ?_, ?_⟩
   ·have := Nat.mod_lt (b % FF.signWeight) (show 0 < FF.binade by decide)
    omega
   ·rw [bn, ir] at *
    have : b % FF.signWeight / 4503599627370496 ≤ 2046 := by omega
    omega
  ·rw [if_neg h2]
   by_cases h3 : b % FF.signWeight = FF.infRung
   ·rw [if_pos h3]; exact .inr (.inl ⟨h3, rfl⟩)
   ·rw [if_neg h3]; exact .inr (.inr ⟨by omega, _, rfl⟩)
theorem read_max : FF.read 9218868437227405311 = .number false 9007199254740991 971 := by decide
theorem m97_some (b : Nat) : m97 (some b) = (FF.read b).isInfinity := by
 unfold m97
 rw [m111_some]
 show (Datum.order (FF.read (b % 9223372036854775808)) (FF.read 9218868437227405311) == some .gt) = _
 rw [read_max]
 have hs : (b % 9223372036854775808) / FF.signWeight % 2 = 0 := by rw [sw]; omega
 have hr : (b % 9223372036854775808) % FF.signWeight = b % FF.signWeight := by rw [sw]; omega
 rcases read_cases (b % 9223372036854775808) with ⟨h1, m, i, h2, hm, hi⟩ | ⟨h1, h2⟩ | ⟨h1, t, h2⟩
 ·rw [hr] at h1
  have hb : (FF.read b).isInfinity = false := by
   rcases read_cases b with ⟨_, _, _, e, _⟩ | ⟨e, _⟩ | ⟨e, _⟩
   ·rw [e]; rfl
   ·omega
   ·omega
  rw [hb, h2, hs]
  have hl := read_num h2
  rw [lpl] at hi hl
  rw [bn] at hm
  simp only [Datum.order]
  have hmin : min i 971 = i := by omega
  rw [hmin, Int.sub_self, Int.toNat_zero]
  simp only [signed, show ((0 : Nat) == 1) = false from rfl, Bool.false_eq_true, if_false, Nat.shiftLeft_zero]
  have hle : (m : Int) ≤ ((9007199254740991 <<< (971 - i).toNat : Nat) : Int) := by
   have : 9007199254740991 ≤ 9007199254740991 <<< (971 - i).toNat := by
    rw [Nat.shiftLeft_eq]; exact Nat.le_mul_of_pos_right _ (Nat.two_pow_pos _)
   omega
  cases hc : compare (m : Int) ((9007199254740991 <<< (971 - i).toNat : Nat) : Int) with
  | lt => rfl
  | eq => rfl
  | gt => have := cmp_gt hc; omega
 ·rw [hr] at h1
  have hb : (FF.read b).isInfinity = true := by
   rcases read_cases b with ⟨e, _⟩ | ⟨_, e⟩ | ⟨e, _⟩
   ·omega
   ·rw [e]; rfl
   ·omega
  rw [hb, h2, hs]; rfl
 ·rw [hr] at h1
  have hb : (FF.read b).isInfinity = false := by
   rcases read_cases b with ⟨e, _⟩ | ⟨e, _⟩ | ⟨_, t, e⟩
   ·omega
   ·omega
   ·rw [e]; rfl
  rw [hb, h2]; rfl
theorem fin_isNum (f : Option Nat) : (bif (m96 f) then false else (!(m97 f))) = isNum f := by
 have h := fo_self f
 unfold m96
 rw [h]
 cases f with
 | none => rfl
 | some b =>
  rw [m97_some]
  unfold isNum
  simp only
  cases FF.read b <;> rfl
theorem m75_num {v : V} (h : v.k = 2) : m75 v = isNum v.f := by
 unfold m75
 rw [h]
 exact fin_isNum v.f
theorem m75_int {v : V} (h : v.k = 1) : m75 v = true := by
 unfold m75
 rw [h]; rfl
theorem m76_some (b : Nat) : m76 (some b) = (b / FF.signWeight % 2 == 1) := by
 unfold m76 m47 bitsOf
 rw [IntKind.wrap_i64, sw]
 simp only [Option.getD_some]
 by_cases h : b / 9223372036854775808 % 2 = 1
 ·rw [h]; simp; omega
 ·have h0 : b / 9223372036854775808 % 2 = 0 := by omega
  rw [h0]; simp; omega
theorem num_read {f : Option Nat} (h : isNum f = true) : ∃ b m i, f = some b ∧ FF.read b = .number (b / FF.signWeight % 2 == 1) m i := by
 cases f with
 | none => cases h
 | some b =>
  unfold isNum at h
  rcases read_cases b with ⟨_, m, i, e, _⟩ | ⟨_, e⟩ | ⟨_, t, e⟩
  ·exact ⟨b, m, i, rfl, e⟩
  ·simp [e] at h
  ·simp [e] at h
theorem ge_of_num {f : Option Nat} (h : isNum f = true) (hs : m76 f = false) : (fo f (some 0) == some .gt || fo f (some 0) == some .eq) = true := by
 obtain ⟨b, m, i, rfl, hr⟩ := num_read h
 rw [m76_some] at hs
 rw [hs] at hr
 show (Datum.order (FF.read b) (FF.read 0) == some .gt || Datum.order (FF.read b) (FF.read 0) == some .eq) = true
 rw [hr, read_zero]
 simp only [Datum.order, signed, Bool.false_eq_true, if_false, Nat.zero_shiftLeft]
 cases hc : compare (((m <<< (i - min i FF.leastPlace).toNat : Nat)) : Int) ((0 : Nat) : Int) with
 | lt => exact absurd (cmp_lt hc) (Int.not_lt.2 (Int.natCast_nonneg _))
 | eq => rfl
 | gt => rfl
theorem shl_log {n k : Nat} (h : n ≠ 0) : (n <<< k).log2 = n.log2 + k := by
 have hp := Nat.two_pow_pos k
 have h0 : n <<< k ≠ 0 := by rw [Nat.shiftLeft_eq]; exact Nat.mul_ne_zero h (by omega)
 rw [Nat.log2_eq_iff h0, Nat.shiftLeft_eq]
 have h1 := Nat.log2_self_le h
 have h2 := Nat.lt_log2_self (n := n)
 constructor
 ·rw [Nat.pow_add]; exact Nat.mul_le_mul_right _ h1
 ·rw [show n.log2 + k + 1 = n.log2 + 1 + k by omega, Nat.pow_add]; exact Nat.mul_lt_mul_of_pos_right h2 hp
theorem cut_exact (way : Toward) (neg : Bool) (n k : Nat) (h : n ≠ 0) : way.cut neg (n <<< k) k = n := by
 unfold Toward.cut
 have hk : min k ((n <<< k).log2 + 2) = k := by rw [shl_log h]; omega
 simp only [hk]
 simp only [Nat.shiftLeft_eq, Nat.one_mul]
 have h1 : n * 2 ^ k / 2 ^ k = n := Nat.mul_div_cancel _ (Nat.two_pow_pos _)
 have h2 : n * 2 ^ k % 2 ^ k = 0 := Nat.mul_mod_left _ _
 have hp := Nat.two_pow_pos k
 rw [h1, h2]
 have hb : (2 ^ k == 0) = false := by
  rw [beq_eq_false_iff_ne]; omega
 cases way <;> simp [hb]
theorem write_read {b : Nat} (hb : b < 2 ^ 64) {s : Bool} {m : Nat} {i : Int} (h : FF.read b = .number s m i) (hm : m ≠ 0) : FF.write (.number s (m <<< (i - FF.leastPlace).toNat) FF.leastPlace) = b := by
 unfold Format.read at h
 simp only at h
 have hsb : b = (b / FF.signWeight % 2) * FF.signWeight + b % FF.signWeight := by
  have : b / FF.signWeight < 2 := by rw [sw]; omega
  rw [Nat.mod_eq_of_lt this]
  have := Nat.div_add_mod b FF.signWeight
  rw [Nat.mul_comm] at this
  exact this.symm
 have hword : ∀ r, FF.word (b / FF.signWeight % 2 == 1) r = (b / FF.signWeight % 2) * FF.signWeight + r := fun r => by
  unfold Format.word
  by_cases e : b / FF.signWeight % 2 = 1
  ·rw [e]; simp
  ·have : b / FF.signWeight % 2 = 0 := by omega
   rw [this]; simp
 have hlt := Nat.mod_lt b (show 0 < FF.signWeight by decide)
 generalize hR : b % FF.signWeight = R at *
 generalize hS : (b / FF.signWeight % 2 == 1) = S at *
 have hshift : ∀ k : Nat, (m <<< k) ≠ 0 := fun k => by rw [Nat.shiftLeft_eq]; have := Nat.two_pow_pos k; exact Nat.mul_ne_zero hm (by omega)
 by_cases h1 : R < FF.binade
 ·rw [if_pos h1] at h
  injection h with e1 e2 e3
  subst e1; subst e2; subst e3
  simp only [Int.sub_self, Int.toNat_zero, Nat.shiftLeft_zero]
  show FF.nearest S R FF.leastPlace = b
  unfold Format.nearest
  rw [if_neg hm]
  have hlog : R.log2 < 52 := by rw [Nat.log2_lt hm]; rw [bn] at h1; exact h1
  have hlast : max (FF.leastPlace + R.log2 - (FF.fractionBits : Int)) FF.leastPlace = FF.leastPlace := by
   have : (FF.fractionBits : Int) = 52 := rfl
   rw [this]; omega
  simp only [hlast, Int.sub_self, Int.toNat_zero]
  rw [show R <<< 0 = R <<< 0 from rfl, cut_exact _ _ _ _ hm, Nat.zero_mul, Nat.zero_add, Nat.min_eq_left (by rw [bn] at h1; rw [ir]; omega), hword]
  exact hsb.symm
 ·rw [if_neg h1] at h
  by_cases h2 : R < FF.infRung
  ·rw [if_pos h2] at h
   injection h with e1 e2 e3
   subst e1; subst e3
   have hk : (FF.leastPlace + ((R / FF.binade - 1 : Nat) : Int) - FF.leastPlace).toNat = R / FF.binade - 1 := by omega
   rw [hk]
   generalize hK : R / FF.binade - 1 = K at *
   have hmm : m = FF.binade + R % FF.binade := e2.symm
   have hlog : m.log2 = 52 := by
    have hlt := Nat.mod_lt R (show 0 < FF.binade by decide)
    rw [Nat.log2_eq_iff hm]
    rw [hmm]; rw [bn] at *
    constructor <;> omega
   show FF.nearest S (m <<< K) FF.leastPlace = b
   unfold Format.nearest
   rw [if_neg (hshift K)]
   have hlast : max (FF.leastPlace + ((m <<< K).log2 : Nat) - (FF.fractionBits : Int)) FF.leastPlace = FF.leastPlace + K := by
    rw [shl_log hm, hlog]
    have : (FF.fractionBits : Int) = 52 := rfl
    rw [this]; omega
   simp only [hlast]
   have e1 : (FF.leastPlace - (FF.leastPlace + (K : Int))).toNat = 0 := by omega
   have e2 : (FF.leastPlace + (K : Int) - FF.leastPlace).toNat = K := by omega
   rw [e1, e2, Nat.shiftLeft_zero, cut_exact _ _ _ _ hm, hmm]
   have hdiv := Nat.div_add_mod R FF.binade
   have hK1 : R / FF.binade = K + 1 := by rw [bn] at *; omega
   have hsum : K * FF.binade + (FF.binade + R % FF.binade) = R := by
    rw [hK1] at hdiv
    rw [bn] at *
    omega
   rw [hsum, Nat.min_eq_left (by omega), hword]
   exact hsb.symm
  ·rw [if_neg h2] at h
   split at h <;> cases h
theorem read_mod (b : Nat) : FF.read (b % 2 ^ 64) = FF.read b := by
 have h1 : b % 2 ^ 64 / FF.signWeight % 2 = b / FF.signWeight % 2 := by rw [sw]; omega
 have h2 : b % 2 ^ 64 % FF.signWeight = b % FF.signWeight := by rw [sw]; omega
 unfold Format.read
 simp only [h1, h2]
theorem zero_add_num {b : Nat} {m : Nat} {i : Int} (h : FF.read b = .number false m i) (hm : m ≠ 0) : fa FloatKind.f64.format.add (some 0) (some b) = some (b % 2 ^ 64) := by
 show ((FF.read 0).sum (FF.read b)).map FF.write = _
 have hl := read_num h
 have hmod : b % 2 ^ 64 < 2 ^ 64 := Nat.mod_lt _ (by decide)
 have hw := write_read hmod ((read_mod b).trans h) hm
 rw [h, read_zero]
 have hmin : min FF.leastPlace i = FF.leastPlace := by omega
 have hne : ((m <<< (i - FF.leastPlace).toNat : Nat) : Int) ≠ 0 := by
  have : m <<< (i - FF.leastPlace).toNat ≠ 0 := by
   rw [Nat.shiftLeft_eq]; have := Nat.two_pow_pos (i - FF.leastPlace).toNat; exact Nat.mul_ne_zero hm (by omega)
  exact_mod_cast this
 have hneg : ¬ (((m <<< (i - FF.leastPlace).toNat : Nat) : Int) < 0) := Int.not_lt.2 (Int.natCast_nonneg _)
 simp only [Datum.sum, hmin, signed, Bool.false_eq_true, if_false, Nat.zero_shiftLeft, Int.ofNat_eq_natCast, Int.natCast_zero, Int.zero_add, if_neg hne, Int.natAbs_natCast, hneg, decide_false, Option.map_some]
 rw [hw]
end Go.Bm
/- Strings, in order. -/
namespace Go.Bm
open Go
abbrev bl := Op.bytesLess
theorem bl_cons (a b : UInt8) (x y : List UInt8) : bl (a :: x) (b :: y) = (decide (a < b) || (a == b && bl x y)) := rfl
theorem bl_trans : ∀ {x y z : List UInt8}, bl x y = true → bl y z = true → bl x z = true
 | _, [], _, h, _ => by cases ‹List UInt8› <;> simp [bl, Op.bytesLess] at h
 | _, _ :: _, [], _, h => by simp [bl, Op.bytesLess] at h
 | [], _ :: _, _ :: _, _, _ => rfl
 | a :: x, b :: y, c :: z, h1, h2 => by
  rw [bl_cons] at *
  simp only [Bool.or_eq_true, Bool.and_eq_true, decide_eq_true_eq, beq_iff_eq] at *
  rcases h1 with h1 | ⟨rfl, h1⟩
  ·rcases h2 with h2 | ⟨rfl, h2⟩
   ·exact .inl (UInt8.lt_trans h1 h2)
   ·exact .inl h1
  ·rcases h2 with h2 | ⟨rfl, h2⟩
   ·exact .inl h2
   ·exact .inr ⟨rfl, bl_trans h1 h2⟩
theorem bl_at : ∀ {i : Nat} {x y : List UInt8} {a b : UInt8}, (∀ j, j < i → x[j]? = y[j]?) → x[i]? = some a → y[i]? = some b → a ≠ b → bl x y = decide (a < b) ∧ x ≠ y
 | 0, c :: x, d :: y, a, b, _, hx, hy, hne => by
  simp only [List.getElem?_cons_zero, Option.some.injEq] at hx hy
  subst hx; subst hy
  rw [bl_cons]
  have : (c == d) = false := by simpa using hne
  simp only [this, Bool.false_and, Bool.or_false, true_and]
  intro e; injection e with e _; exact hne e
 | i + 1, c :: x, d :: y, a, b, h, hx, hy, hne => by
  have h0 := h 0 (Nat.succ_pos _)
  simp only [List.getElem?_cons_zero, Option.some.injEq] at h0
  subst h0
  have ih := bl_at (i := i) (x := x) (y := y) (fun j hj => by have := h (j + 1) (by omega); simpa using this) (by simpa using hx) (by simpa using hy) hne
  rw [bl_cons]
  have : ¬ c < c := by simp
  simp only [this, decide_false, Bool.false_or, beq_self_eq_true, Bool.true_and]
  exact ⟨ih.1, fun e => ih.2 (by injection e)⟩
 | _, [], _, _, _, _, hx, _, _ => by simp at hx
 | _, _ :: _, [], _, _, _, _, hy, _ => by simp at hy
theorem bl_none : ∀ {x y : List UInt8}, (∀ j, j < min x.length y.length → x[j]? = y[j]?) → bl x y = decide (x.length < y.length) ∧ (x = y ↔ x.length = y.length)
 | [], [], _ => by simp [bl, Op.bytesLess]
 | [], _ :: _, _ => by simp [bl, Op.bytesLess]
 | _ :: _, [], _ => by simp [bl, Op.bytesLess]
 | c :: x, d :: y, h => by
  have h0 := h 0 (by simp)
  simp only [List.getElem?_cons_zero, Option.some.injEq] at h0
  subst h0
  have ih := bl_none (x := x) (y := y) (fun j hj => by have := h (j + 1) (by simp only [List.length_cons]; omega); simpa using this)
  rw [bl_cons]
  have : ¬ c < c := by simp
  simp only [this, decide_false, Bool.false_or, beq_self_eq_true, Bool.true_and, List.length_cons, Nat.add_lt_add_iff_right, List.cons.injEq, true_and, Nat.add_right_cancel_iff]
  exact ih
theorem ba_get (a : ByteArray) (i : Nat) (h : i < a.size) : a.toList[i]? = some a[i]! := by
 rw [ByteArray.toList_eq]
 have h' : i < a.data.toList.length := by simpa using h
 rw [List.getElem?_eq_getElem h']
 rw [getElem!_pos a i h]
 rfl
theorem cmp_spec (a b : ByteArray) : decide (Extern.BytealgCompare.cmp a b < 0) = bl a.toList b.toList ∧ ((Extern.BytealgCompare.cmp a b == 0) = (a.toList == b.toList)) := by
 have hla : a.toList.length = a.size := by rw [ByteArray.toList_eq]; simp
 have hlb : b.toList.length = b.size := by rw [ByteArray.toList_eq]; simp
 unfold Extern.BytealgCompare.cmp
 cases hf : (List.range (min a.size b.size)).find? fun i => a[i]! != b[i]! with
 | some i =>
  have h := hf
  rw [List.find?_range_eq_some] at h
  obtain ⟨h1, h2, h3⟩ := h
  have hi : i < min a.size b.size := by simpa using h2
  have ha := ba_get a i (by omega)
  have hb := ba_get b i (by omega)
  have hat := bl_at (i := i) (fun j hj => by
   have := h3 j hj
   simp only [bne_iff_ne, ne_eq, Bool.not_eq_true, bne_eq_false_iff_eq, Bool.not_eq_true'] at this
   rw [ba_get a j (by omega), ba_get b j (by omega), this]) ha hb (by simpa using h1)
  simp only
  rw [hat.1]
  have hne : (a.toList == b.toList) = false := by simpa using hat.2
  rw [hne]
  by_cases hlt : a[i]! < b[i]! <;> simp [hlt]
 | none =>
  have h := hf
  rw [List.find?_range_eq_none] at h
  have hn := bl_none (x := a.toList) (y := b.toList) (fun j hj => by
   rw [hla, hlb] at hj
   have := h j hj
   simp only [bne_iff_ne, ne_eq, Bool.not_eq_true, bne_eq_false_iff_eq, Bool.not_eq_true'] at this
   rw [ba_get a j (by omega), ba_get b j (by omega), this])
  simp only
  rw [hn.1, hla, hlb]
  have he : (a.toList == b.toList) = decide (a.size = b.size) := by
   rw [Bool.eq_iff_iff]
   simp only [beq_iff_eq, decide_eq_true_eq, hn.2, hla, hlb]
  rw [he]
  by_cases h1 : a.size < b.size
  ·have : ¬ a.size = b.size := by omega
   simp [h1, this]
  ·by_cases h2 : a.size > b.size
   ·have : ¬ a.size = b.size := by omega
    simp [h1, h2, this]
   ·have : a.size = b.size := by omega
    simp [h1, h2, this]
end Go.Bm
