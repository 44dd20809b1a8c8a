import Derived.Test.YthgocpanlbmalaaGreatPb
set_option linter.unusedVariables false
set_option linter.unusedSimpArgs false
/- A name's place: the program's search, the document's. -/
set_option maxHeartbeats 1000000
namespace Go.Bm
open Go Go.Proofs
def nm (x : V) : List UInt8 := (x.l[0]?.getD default).s.toList
def Sorted (L : List V) : Prop := ∀ (i j : Nat) (x y : V), i < j → L[i]? = some x → L[j]? = some y → bl (nm x) (nm y) = true
theorem sorted_of {L : List V} (h : ∀ (j : Nat) (x y : V), L[j]? = some x → L[j + 1]? = some y → bl (nm x) (nm y) = true) : Sorted L := by
 have key : ∀ (d i : Nat) (x y : V), L[i]? = some x → L[i + d + 1]? = some y → bl (nm x) (nm y) = true := by
  intro d
  induction d with
  | zero => exact fun i x y hx hy => h i x y hx hy
  | succ d ih =>
   intro i x y hx hy
   have hlt : i + (d + 1) + 1 < L.length := (List.getElem?_eq_some_iff.1 hy).1
   have hz := List.getElem?_eq_getElem (l := L) (i := i + d + 1) (by omega)
   exact bl_trans (ih i x _ hx hz) (h (i + d + 1) _ y hz hy)
 intro i j x y hij hx hy
 have e : j = i + (j - i - 1) + 1 := by omega
 rw [e] at hy
 exact key (j - i - 1) i x y hx hy
structure Pos (L : List V) (t : List UInt8) (i : Nat) : Prop where
 le : i ≤ L.length
 lt : ∀ (j : Nat) (x : V), L[j]? = some x → bl (nm x) t = decide (j < i)
theorem Pos.uniq {L : List V} {t : List UInt8} {i k : Nat} (h : Pos L t i) (h' : Pos L t k) : i = k := by
 have key : ∀ {i k : Nat}, Pos L t i → Pos L t k → ¬ i < k := fun {i k} h h' hlt => by
  have := h'.le
  have hx := List.getElem?_eq_getElem (l := L) (i := i) (by omega)
  have h1 := h.lt i _ hx
  have h2 := h'.lt i _ hx
  rw [h1] at h2
  simp at h2
  omega
 have h1 := key h h'
 have h2 := key h' h
 omega
def found (L : List V) (t : List UInt8) (i : Nat) : Bool := decide (i < L.length) && (nm (L[i]?.getD default) == t)
theorem lp_first {α : Type} {body : α → Nat → Unit → Rd Empty Unit} {p : α → Bool} (hb : ∀ x i s, body x i s = bif p x then .next () else .out ()) : ∀ (l : List α) (i : Nat) (q : Nat × Unit), lp body l i () = .inr q →
  i ≤ q.1 ∧ q.1 ≤ i + l.length ∧ (∀ (j : Nat) (x : α), l[j]? = some x → i + j < q.1 → p x = true) ∧ ∀ (j : Nat) (x : α), l[j]? = some x → i + j = q.1 → p x = false
 | [], i, q, h => by
  simp only [lp, Sum.inr.injEq] at h
  subst h
  simp
 | y :: r, i, q, h => by
  simp only [lp, hb] at h
  cases hp : p y with
  | true =>
   rw [hp] at h
   simp only [cond_true] at h
   have ih := lp_first hb r (i + 1) q h
   refine ⟨by omega, by simp only [List.length_cons]; omega, fun j x hx hlt => ?_, fun j x hx he => ?_⟩
   ·cases j with
    | zero => simp at hx; subst hx; exact hp
    | succ j => exact ih.2.2.1 j x (by simpa using hx) (by omega)
   ·cases j with
    | zero => omega
    | succ j => exact ih.2.2.2 j x (by simpa using hx) (by omega)
  | false =>
   rw [hp] at h
   simp only [cond_false, Sum.inr.injEq] at h
   subst h
   refine ⟨Nat.le_refl _, by simp only [List.length_cons]; omega, fun j x hx hlt => by omega, fun j x hx he => ?_⟩
   have : j = 0 := by omega
   subst this
   simp at hx; subst hx; exact hp
theorem pos_of_first {L : List V} {t : List UInt8} {q : Nat} (hs : Sorted L) (hle : q ≤ L.length) (h1 : ∀ (j : Nat) (x : V), L[j]? = some x → j < q → bl (nm x) t = true) (h2 : ∀ x, L[q]? = some x → bl (nm x) t = false) : Pos L t q := by
 refine ⟨hle, fun j x hx => ?_⟩
 by_cases hj : j < q
 ·rw [h1 j x hx hj]; simp [hj]
 ·have hjl : j < L.length := (List.getElem?_eq_some_iff.1 hx).1
  have hy := List.getElem?_eq_getElem (l := L) (i := q) (by omega)
  have h0 := h2 _ hy
  have : bl (nm x) t = false := by
   by_cases e : j = q
   ·subst e; exact h2 x hx
   ·cases hb : bl (nm x) t with
    | false => rfl
    | true =>
     have := bl_trans (hs q j _ x (by omega) hy hx) hb
     rw [h0] at this; cases this
  rw [this]; simp [hj]
theorem m69_spec {st : V} (hs : Sorted st.l) (b : ByteArray) : ∃ i, Pos st.l b.toList i ∧ m69 st b = ((i : Int), found st.l b.toList i) := by
 unfold m69
 cases h1 : (lp (m69_b0 st b) st.l 0 ()) with
 | inl q => exact q.elim
 | inr q1 =>
  have h := lp_first (p := fun x => bl (nm x) b.toList) (fun x i s => rfl) _ _ _ h1
  simp only [Nat.zero_add] at h
  have hp := pos_of_first hs h.2.1 h.2.2.1 (fun x hx => h.2.2.2 q1.1 x hx rfl)
  refine ⟨q1.1, hp, ?_⟩
  simp only
  unfold found
  cases h2 : (decide (((q1.1 : Nat) : Int) < (((V.rows st.l).length : Nat) : Int)))
  ·have h3 := of_decide_eq_false h2
   rw [V.rows_length] at h3
   have : ¬ q1.1 < st.l.length := by omega
   simp [this]
  ·have h3 := of_decide_eq_true h2
   rw [V.rows_length] at h3
   have : q1.1 < st.l.length := by omega
   simp only [cond_true, this, decide_true, Bool.true_and, Int.toNat_natCast]
   rfl
theorem wh_inv {σ : Type} {body : σ → Rd Empty σ} (I : σ → Prop) (J : σ → Prop) (hn : ∀ s s', I s → body s = .next s' → I s') (ho : ∀ s s', I s → body s = .out s' → J s') : ∀ (n : Nat) (s q : σ), whD body n s = true → I s → wh body n s = .inr q → J q
 | 0, s, q, hd, _, _ => by simp [whD] at hd
 | n + 1, s, q, hd, hI, h => by
  simp only [wh] at h
  simp only [whD] at hd
  cases hb : body s with
  | next s1 => rw [hb] at h hd; exact wh_inv I J hn ho n s1 q hd (hn s s1 hI hb) h
  | out s1 => rw [hb] at h; simp only [Sum.inr.injEq] at h; subst h; exact ho s s1 hI hb
  | ret r => exact r.elim
theorem m102_lt (x : V) (b : ByteArray) : decide (m102 x b < (0 : Int)) = bl (nm x) b.toList := (cmp_spec _ _).1
theorem m102_eq (x : V) (b : ByteArray) : (m102 x b == (0 : Int)) = (nm x == b.toList) := (cmp_spec _ _).2
theorem m101_spec {L : List V} (hs : Sorted L) (hl : L.length ≤ 274877906944) (b : ByteArray) : ∃ i, Pos L b.toList i ∧ m101_102 L b = ((i : Int), found L b.toList i) := by
 unfold m101_102
 have hd := bs101_102_term L b hl
 cases h1 : (wh (m101_102_b0 L b) (L.length + 1) (0, (((V.rows L).length : Nat) : Int))) with
 | inl q => exact q.elim
 | inr q1 =>
  have hJ := wh_inv (body := m101_102_b0 L b)
   (fun s => (0 ≤ s.1 ∧ s.1 ≤ s.2 ∧ s.2 ≤ ((L.length : Nat) : Int)) ∧ (∀ (j : Nat) (x : V), L[j]? = some x → (j : Int) < s.1 → bl (nm x) b.toList = true) ∧ ∀ (j : Nat) (x : V), L[j]? = some x → s.2 ≤ (j : Int) → bl (nm x) b.toList = false)
   (fun s => ((0 ≤ s.1 ∧ s.1 ≤ s.2 ∧ s.2 ≤ ((L.length : Nat) : Int)) ∧ (∀ (j : Nat) (x : V), L[j]? = some x → (j : Int) < s.1 → bl (nm x) b.toList = true) ∧ ∀ (j : Nat) (x : V), L[j]? = some x → s.2 ≤ (j : Int) → bl (nm x) b.toList = false) ∧ ¬ s.1 < s.2)
   (fun s s' hI hb => by
    have hst := (bs101_102_step L b s s' hl hI.1 hb).1
    refine ⟨hst, ?_⟩
    unfold m101_102_b0 at hb
    cases g : decide (s.1 < s.2) with
    | false => rw [g] at hb; cases hb
    | true =>
     rw [g] at hb
     simp only [cond_true] at hb
     have g' := of_decide_eq_true g
     rw [mid101_102 hI.1.1 g' (by omega)] at hb
     have hm : ((s.1 + s.2) / 2).toNat < L.length := by omega
     have hx : L[((s.1 + s.2) / 2).toNat]? = some (L[((s.1 + s.2) / 2).toNat]?.getD default) := by rw [List.getElem?_eq_getElem hm]; rfl
     rw [m102_lt] at hb
     cases hc : bl (nm (L[((s.1 + s.2) / 2).toNat]?.getD default)) b.toList with
     | true =>
      rw [hc] at hb
      cases hb
      refine ⟨fun j x hj hlt => ?_, hI.2.2⟩
      have e : IntKind.i64.wrap ((s.1 + s.2) / 2 + 1) = (s.1 + s.2) / 2 + 1 := by rw [IntKind.wrap_i64]; omega
      simp only [e] at hlt
      by_cases ej : j = ((s.1 + s.2) / 2).toNat
      ·subst ej; rw [hx] at hj; cases hj; exact hc
      ·exact bl_trans (hs j _ x _ (by omega) hj hx) hc
     | false =>
      rw [hc] at hb
      cases hb
      refine ⟨hI.2.1, fun j x hj hlt => ?_⟩
      simp only at hlt
      by_cases ej : j = ((s.1 + s.2) / 2).toNat
      ·subst ej; rw [hx] at hj; cases hj; exact hc
      ·cases hq : bl (nm x) b.toList with
       | false => rfl
       | true =>
        have := bl_trans (hs _ j _ x (by omega) hx hj) hq
        rw [hc] at this; cases this)
   (fun s s' hI hb => by
    have e := bs101_102_out L b s s' hb
    subst e
    refine ⟨hI, ?_⟩
    unfold m101_102_b0 at hb
    cases g : decide (s'.1 < s'.2) with
    | false => exact of_decide_eq_false g
    | true =>
     rw [g] at hb
     simp only [cond_true] at hb
     cases hc : decide (m102 (L[((IntKind.i64.wrap (Int.fdiv (IntKind.u64.wrap (IntKind.i64.wrap (s'.1 + s'.2))) (2 ^ (min (1 : Int).toNat IntKind.u64.bits)))) : Int).toNat]?.getD default) b < (0 : Int)) <;> rw [hc] at hb <;> cases hb)
   _ _ _ hd ⟨bs101_102_init L, fun j x hj hlt => by simp only at hlt; omega, fun j x hj hle => by
    have := (List.getElem?_eq_some_iff.1 hj).1
    rw [V.rows_length] at hle
    simp only at hle
    omega⟩ h1
  obtain ⟨⟨hb, hlo, hhi⟩, hne⟩ := hJ
  have he : q1.1 = q1.2 := by omega
  have hq : q1.1 = ((q1.1.toNat : Nat) : Int) := (Int.toNat_of_nonneg hb.1).symm
  have hp : Pos L b.toList q1.1.toNat := ⟨by omega, fun j x hj => by
   by_cases hlt : j < q1.1.toNat
   ·rw [hlo j x hj (by omega)]; simp [hlt]
   ·rw [hhi j x hj (by omega)]; simp [hlt]⟩
  refine ⟨_, hp, ?_⟩
  simp only
  unfold found
  cases h2 : (decide (q1.1 < (((V.rows L).length : Nat) : Int)))
  ·have h3 := of_decide_eq_false h2
   rw [V.rows_length] at h3
   have : ¬ q1.1.toNat < L.length := by omega
   simp only [cond_false, this, decide_false, Bool.false_and]
   rw [← hq]
  ·have h3 := of_decide_eq_true h2
   rw [V.rows_length] at h3
   have : q1.1.toNat < L.length := by omega
   simp only [cond_true, this, decide_true, Bool.true_and]
   rw [m102_eq, ← hq]
theorem find_same {st : V} (hs : Sorted st.l) (hl : st.l.length ≤ 274877906944) (y : V) : m86 ⟨st.l⟩ y = m69 st y.s := by
 obtain ⟨i, hi, e1⟩ := m101_spec hs hl y.s
 obtain ⟨k, hk, e2⟩ := m69_spec hs y.s
 obtain rfl := hi.uniq hk
 rw [e2, ← e1]
 rfl
end Go.Bm
/- What is right, by the program and by the document. -/
set_option maxHeartbeats 1000000
namespace Go.Bm
open Go Go.Proofs
theorem lp_all {α : Type} {body : α → Nat → Unit → Rd Bool Unit} {p : α → Nat → Bool} (hb : ∀ x i s, body x i s = bif p x i then .next () else .ret false) : ∀ (l : List α) (i : Nat),
  ((match lp body l i () with | .inl q => q | .inr _ => true) = true ↔ ∀ (j : Nat) (x : α), l[j]? = some x → p x (i + j) = true)
 | [], i => by simp [lp]
 | y :: r, i => by
  simp only [lp, hb]
  cases hp : p y i with
  | true =>
   simp only [cond_true]
   rw [lp_all hb r (i + 1)]
   constructor
   ·intro h j x hx
    cases j with
    | zero => simp at hx; subst hx; exact hp
    | succ j => rw [show i + (j + 1) = i + 1 + j by omega]; exact h j x (by simpa using hx)
   ·intro h j x hx
    rw [show i + 1 + j = i + (j + 1) by omega]
    exact h (j + 1) x (by simpa using hx)
  | false =>
   simp only [cond_false]
   constructor
   ·intro h; cases h
   ·intro h; have := h 0 y rfl; rw [Nat.add_zero, hp] at this; cases this
def prev (s : V) (i : Nat) : V := s.l[((IntKind.i64.wrap (((i : Nat) : Int) - 1)) : Int).toNat]?.getD default
def p15 (s : V) (x : V) (i : Nat) : Bool := m40 x && (!decide (((i : Nat) : Int) > (0 : Int)) || bl (nm (prev s i)) (nm x))
theorem b15 (s x : V) (i : Nat) (u : Unit) : m15_b0 s x i u = bif p15 s x i then .next () else .ret false := by
 unfold m15_b0 p15
 show (bif m40 x then bif decide (((i : Nat) : Int) > (0 : Int)) then bif bl (nm (prev s i)) (nm x) then Rd.next () else .ret false else .next () else .ret false) = _
 cases m40 x <;> cases decide (((i : Nat) : Int) > (0 : Int)) <;> cases bl (nm (prev s i)) (nm x) <;> rfl
def p44 (s : V) (x : V) (i : Nat) : Bool :=
 (!(x.k != (4 : Int))) && (!((((V.rows x.l).length : Nat) : Int) != (2 : Int))) && m77 (x.l[0]?.getD default) && (!decide (((i : Nat) : Int) > (0 : Int)) || bl (nm (prev s i)) (nm x)) &&
  (!((x.l[1]?.getD default).k != (2 : Int))) && m73 (x.l[1]?.getD default) && (!m76 ((x.l[1]?.getD default).f))
theorem b44 (s x : V) (i : Nat) (u : Unit) : m44_b0 s true x i u = bif p44 s x i then .next () else .ret false := by
 unfold m44_b0 p44
 show (bif (x.k != (4 : Int)) then Rd.ret false else bif ((((V.rows x.l).length : Nat) : Int) != (2 : Int)) then .ret false else bif m77 (x.l[0]?.getD default) then bif decide (((i : Nat) : Int) > (0 : Int)) then bif bl (nm (prev s i)) (nm x) then
  bif ((x.l[1]?.getD default).k != (2 : Int)) then .ret false else bif m73 (x.l[1]?.getD default) then bif m76 ((x.l[1]?.getD default).f) then .ret false else .next () else .ret false else .ret false
  else bif ((x.l[1]?.getD default).k != (2 : Int)) then .ret false else bif m73 (x.l[1]?.getD default) then bif m76 ((x.l[1]?.getD default).f) then .ret false else .next () else .ret false else .ret false) = _
 cases (x.k != (4 : Int)) <;> cases ((((V.rows x.l).length : Nat) : Int) != (2 : Int)) <;> cases m77 (x.l[0]?.getD default) <;> cases decide (((i : Nat) : Int) > (0 : Int)) <;> cases bl (nm (prev s i)) (nm x) <;>
  cases ((x.l[1]?.getD default).k != (2 : Int)) <;> cases m73 (x.l[1]?.getD default) <;> cases m76 ((x.l[1]?.getD default).f) <;> rfl
theorem m74_m77 (v : V) : m74 v = m77 v := rfl
theorem m73_num {v : V} (h : v.k = 2) : m73 v = isNum v.f := by
 unfold m73
 rw [h]
 exact sub_self_num v.f
theorem row_same (x : V) : m40 x = ((!(x.k != (4 : Int))) && (!((((V.rows x.l).length : Nat) : Int) != (2 : Int))) && m77 (x.l[0]?.getD default) && (!((x.l[1]?.getD default).k != (2 : Int))) && m73 (x.l[1]?.getD default) && (!m76 ((x.l[1]?.getD default).f))) := by
 unfold m40
 rw [m74_m77]
 cases (x.k != (4 : Int)) <;> simp only [cond_true, cond_false, Bool.not_true, Bool.not_false, Bool.false_and, Bool.true_and]
 cases ((((V.rows x.l).length : Nat) : Int) != (2 : Int)) <;> simp only [cond_true, cond_false, Bool.not_true, Bool.not_false, Bool.false_and, Bool.true_and]
 cases m77 (x.l[0]?.getD default) <;> simp only [cond_true, cond_false, Bool.not_true, Bool.not_false, Bool.false_and, Bool.true_and]
 generalize x.l[1]?.getD default = v
 cases hk : (v.k != (2 : Int)) <;> simp only [cond_true, cond_false, Bool.not_true, Bool.not_false, Bool.false_and, Bool.true_and]
 have hk2 : v.k = 2 := by simpa using hk
 rw [m75_num hk2, m73_num hk2]
 cases hn : isNum v.f <;> simp only [cond_true, cond_false, Bool.not_true, Bool.not_false, Bool.false_and, Bool.true_and]
 cases hs : m76 v.f
 ·rw [ge_of_num hn hs]; rfl
 ·cases (fo v.f (some 0) == some .gt || fo v.f (some 0) == some .eq) <;> rfl
theorem p_same (s x : V) (i : Nat) : p15 s x i = p44 s x i := by
 unfold p15 p44
 rw [row_same]
 cases (x.k != (4 : Int)) <;> cases ((((V.rows x.l).length : Nat) : Int) != (2 : Int)) <;> cases m77 (x.l[0]?.getD default) <;> cases (!decide (((i : Nat) : Int) > (0 : Int)) || bl (nm (prev s i)) (nm x)) <;>
  cases ((x.l[1]?.getD default).k != (2 : Int)) <;> cases m73 (x.l[1]?.getD default) <;> cases m76 ((x.l[1]?.getD default).f) <;> rfl
theorem two_list {α : Type} [Inhabited α] {l : List α} (h : l.length = 2) : l = [l[0]?.getD default, l[1]?.getD default] := by
 match l, h with
 | [a, b], _ => rfl
theorem row_kinds {x : V} (h : Row40 x) : V.kinds x = true := by
 have hl := two_list h.len
 have hn := h.name
 have hf := h.fk
 have hk := h.k
 obtain ⟨k, i, f, s, l⟩ := x
 simp only [V.k] at hk
 subst hk
 change l = [l[0]?.getD default, l[1]?.getD default] at hl
 change m74 (l[0]?.getD default) = true at hn
 change (l[1]?.getD default).k = 2 at hf
 rw [hl]
 generalize l[0]?.getD default = a at *
 generalize l[1]?.getD default = b at *
 have ha : a.k = 3 := by
  unfold m74 at hn
  cases e : (a.k == (3 : Int)) with
  | true => exact eq_of_beq e
  | false => rw [e] at hn; cases hn
 obtain ⟨k1, i1, f1, s1, l1⟩ := a
 obtain ⟨k2, i2, f2, s2, l2⟩ := b
 simp only [V.k] at ha hf
 subst ha; subst hf
 simp [V.kinds, V.kindss]
theorem name_size {v : V} (h : m74 v = true) : v.k = 3 ∧ 1 ≤ v.s.size ∧ v.s.size ≤ 32 := by
 unfold m74 at h
 cases e : (v.k == (3 : Int)) with
 | false => rw [e] at h; cases h
 | true =>
  rw [e] at h
  simp only [cond_true] at h
  cases e2 : decide ((v.s.size : Int) ≥ (1 : Int)) with
  | false => rw [e2] at h; cases h
  | true =>
   rw [e2] at h
   simp only [cond_true] at h
   have h1 := of_decide_eq_true e2
   have h2 := of_decide_eq_true h
   exact ⟨eq_of_beq e, by omega, by omega⟩
theorem row_great {x : V} (h : Row40 x) : V.great x 1 = false := by
 have hl := two_list h.len
 have hn := name_size h.name
 have hf := h.fk
 have hk := h.k
 obtain ⟨k, i, f, s, l⟩ := x
 simp only [V.k] at hk
 subst hk
 change l = [l[0]?.getD default, l[1]?.getD default] at hl
 change (l[0]?.getD default).k = 3 ∧ 1 ≤ (l[0]?.getD default).s.size ∧ (l[0]?.getD default).s.size ≤ 32 at hn
 change (l[1]?.getD default).k = 2 at hf
 rw [hl]
 generalize l[0]?.getD default = a at *
 generalize l[1]?.getD default = b at *
 obtain ⟨k1, i1, f1, s1, l1⟩ := a
 obtain ⟨k2, i2, f2, s2, l2⟩ := b
 simp only [V.k, V.s] at hn hf
 obtain ⟨rfl, _, h2⟩ := hn
 subst hf
 have h3 : decide ((s1.size : Int) > (256 : Int)) = false := by simp; omega
 simp [V.great, V.greats, h3, IntKind.wrap_i64]
 try omega
theorem row_sz {x : V} (h : Row40 x) : 0 ≤ V.sz x ∧ V.sz x ≤ 46 := by
 have hl := two_list h.len
 have hn := name_size h.name
 have hf := h.fk
 have hk := h.k
 obtain ⟨k, i, f, s, l⟩ := x
 simp only [V.k] at hk
 subst hk
 change l = [l[0]?.getD default, l[1]?.getD default] at hl
 change (l[0]?.getD default).k = 3 ∧ 1 ≤ (l[0]?.getD default).s.size ∧ (l[0]?.getD default).s.size ≤ 32 at hn
 change (l[1]?.getD default).k = 2 at hf
 rw [hl]
 generalize l[0]?.getD default = a at *
 generalize l[1]?.getD default = b at *
 obtain ⟨k1, i1, f1, s1, l1⟩ := a
 obtain ⟨k2, i2, f2, s2, l2⟩ := b
 simp only [V.k, V.s] at hn hf
 obtain ⟨rfl, _, h2⟩ := hn
 subst hf
 simp [V.sz, V.szs]
 omega
theorem rows_all {l : List V} (h : ∀ x ∈ l, Row40 x) : V.kindss l = true ∧ V.greats l 1 = false ∧ 0 ≤ V.szs l ∧ V.szs l ≤ 46 * l.length := by
 induction l with
 | nil => exact ⟨rfl, rfl, Int.le_refl _, by simp [V.szs]⟩
 | cons x r ih =>
  have hx := h x (by simp)
  obtain ⟨h1, h2, h3, h4⟩ := ih fun y hy => h y (by simp [hy])
  have hs := row_sz hx
  refine ⟨by simp [V.kindss, row_kinds hx, h1], by simp [V.greats, row_great hx, h2], by simp only [V.szs]; omega, by simp only [V.szs, List.length_cons]; omega⟩
theorem rows_check {s : V} (hk : s.k = 4) (hl : s.l.length ≤ 32) (h : ∀ x ∈ s.l, Row40 x) : m45 s = 0 := by
 obtain ⟨k, i, f, n, l⟩ := s
 simp only [V.k] at hk
 subst hk
 change l.length ≤ 32 at hl
 change ∀ x ∈ l, Row40 x at h
 obtain ⟨h1, h2, h3, h4⟩ := rows_all h
 unfold m45
 have e1 : V.kinds (V.mk 4 i f n l) = true := by simp [V.kinds, h1]
 have e2 : V.great (V.mk 4 i f n l) 0 = false := by
  have hw : IntKind.i64.wrap (0 + 1) = 1 := by rw [IntKind.wrap_i64]; rfl
  have : decide ((l.length : Int) > (64 : Int)) = false := by simp; omega
  simp only [V.great, hw, h2, this]
  rfl
 have e3 : decide (V.wsz (V.mk 4 i f n l) > (4096 : Int)) = false := by
  have : V.sz (V.mk 4 i f n l) = 2 + V.szs l := by simp [V.sz]
  simp only [V.wsz, this, IntKind.wrap_i64]
  simp; omega
 rw [e1, e2, e3]; rfl
theorem right_same (s : V) (c : ByteArray) : m15 s = m17 c s := by
 show m15 s = m44 s true
 have h1 := lp_all (b15 s) s.l 0
 have h2 := lp_all (b44 s) s.l 0
 unfold m15 m44
 cases hk : (s.k != (4 : Int)) with
 | true => rfl
 | false =>
  simp only [cond_false]
  cases hl : (decide ((((V.rows s.l).length : Nat) : Int) > (32 : Int))) with
  | true => rfl
  | false =>
   simp only [cond_false]
   have e : (∀ (j : Nat) (x : V), s.l[j]? = some x → p15 s x (0 + j) = true) ↔ ∀ (j : Nat) (x : V), s.l[j]? = some x → p44 s x (0 + j) = true := by
    constructor
    ·intro h j x hx; rw [← p_same]; exact h j x hx
    ·intro h j x hx; rw [p_same]; exact h j x hx
   have hc : (∀ (j : Nat) (x : V), s.l[j]? = some x → p15 s x (0 + j) = true) → m45 s = 0 := fun h => by
    refine rows_check (by simpa using hk) (by have := of_decide_eq_false hl; rw [V.rows_length] at this; omega) fun x hx => ?_
    obtain ⟨j, hj⟩ := List.getElem?_of_mem hx
    have := h j x hj
    unfold p15 at this
    rw [Bool.and_eq_true] at this
    exact row40 this.1
   rw [Bool.eq_iff_iff]
   have e1 : (match lp (m15_b0 s) s.l 0 () with | .inl q3 => q3 | .inr q3 => true) = (match lp (m15_b0 s) s.l 0 () with | .inl q => q | .inr _ => true) := rfl
   constructor
   ·intro h
    have hp := h1.1 h
    rw [hc hp]
    exact h2.2 (e.1 hp)
   ·intro h
    cases h45 : (m45 s != (0 : Int)) with
    | true => rw [h45] at h; cases h
    | false =>
     rw [h45] at h
     exact h1.2 (e.2 (h2.1 h))
end Go.Bm
/- What a call is asked for, by the program and by the document. -/
set_option maxHeartbeats 1000000
namespace Go.Bm
open Go Go.Proofs
theorem stranges_all : ∀ {l : List V}, (∀ x ∈ l, V.strange x = !V.kinds x) → V.stranges l = !V.kindss l
 | [], _ => rfl
 | x :: r, h => by
  have ih := stranges_all (l := r) fun y hy => h y (List.mem_cons_of_mem _ hy)
  simp only [V.stranges, V.kindss, h x (List.mem_cons_self), ih, Bool.not_and]
theorem strange_kinds (v : V) : V.strange v = !V.kinds v := by
 refine V.induct (p := fun v => V.strange v = !V.kinds v) ?_ v
 intro v ih
 obtain ⟨k, i, f, s, l⟩ := v
 change ∀ x ∈ l, _ at ih
 simp only [V.strange, V.kinds, stranges_all ih]
 cases decide (k < 0) <;> cases decide (k > 4) <;> cases k == 4 <;> rfl
theorem bigs_all : ∀ {l : List V} {d b : Int}, (∀ x ∈ l, V.big x d = V.great x b) → V.bigs l d = V.greats l b
 | [], _, _, _ => rfl
 | x :: r, d, b, h => by
  have ih := bigs_all (l := r) (d := d) (b := b) fun y hy => h y (List.mem_cons_of_mem _ hy)
  simp only [V.bigs, V.greats, h x (List.mem_cons_self), ih]
theorem big_great (v : V) : ∀ (b : Int), 0 ≤ b → b ≤ 8 → V.big v (8 - b) = V.great v b := by
 refine V.induct (p := fun v => ∀ (b : Int), 0 ≤ b → b ≤ 8 → V.big v (8 - b) = V.great v b) ?_ v
 intro v ih b h0 h8
 obtain ⟨k, i, f, s, l⟩ := v
 change ∀ x ∈ l, _ at ih
 simp only [V.big, V.great]
 cases hk3 : k == 3
 ·simp only [cond_false]
  cases hk4 : k == 4
  ·have : (k != 4) = true := by simpa using hk4
   rw [this]; rfl
  ·have : (k != 4) = false := by simpa using hk4
   rw [this]
   simp only [cond_true, cond_false]
   by_cases hb : b = 8
   ·subst hb
    simp
   ·have h1 : decide (8 - b < 1) = false := by simp; omega
    have h2 : decide (b ≥ 8) = false := by simp; omega
    have h3 : IntKind.i64.wrap (8 - b - 1) = 8 - (b + 1) := by rw [IntKind.wrap_i64]; omega
    have h4 : IntKind.i64.wrap (b + 1) = b + 1 := by rw [IntKind.wrap_i64]; omega
    rw [h1, h2, h3, h4, bigs_all fun x hx => ih x hx (b + 1) (by omega) (by omega)]
    rfl
 ·rfl
theorem value_check (v : V) : m51 v = m45 v := by
 unfold m51 m45
 have hb := big_great v 0 (by omega) (by omega)
 rw [strange_kinds, show (8 : Int) = 8 - 0 from rfl, hb]
 cases V.kinds v <;> cases V.great v 0 <;> rfl
theorem lp_congr {α ρ σ : Type} {body body' : α → Nat → σ → Rd ρ σ} : ∀ (l : List α) (i : Nat) (s : σ), (∀ (j : Nat) (x : α) (s : σ), l[j]? = some x → body x (i + j) s = body' x (i + j) s) → lp body l i s = lp body' l i s
 | [], _, _, _ => rfl
 | y :: r, i, s, h => by
  have h0 := h 0 y s rfl
  rw [Nat.add_zero] at h0
  simp only [lp, h0]
  cases body' y i s with
  | next s' => exact lp_congr r (i + 1) s' fun j x s hx => by rw [show i + 1 + j = i + (j + 1) by omega]; exact h (j + 1) x s (by simpa using hx)
  | out _ => rfl
  | ret _ => rfl
def byteAt (k : ByteArray) (i : Nat) : Int := ((k.data.toList.getD (((i : Nat) : Int)).toNat 0).toNat : Int)
theorem check_core {m : ByteArray} {a : List V} {q : QArgsMethod} {q' : QChoirref8Method} (e49 : m49 LG m = (q, true)) (e64 : m64 LG m = (q', true)) (hs : (q.takes.toList == (ByteArray.mk #[115]).toList) = false) (hsz : q.takes.size = q'.takes.size)
  (hk : ∀ i, i < q.takes.size → ∀ x, m52 (byteAt q.takes i) x = m65 (byteAt q'.takes i) x) : m25 LG m a = m32 LG m a := by
 have e50 : m50 q (((V.rows a).length : Nat) : Int) = (q.takes, ((((V.rows a).length : Nat) : Int) == (q.takes.size : Int))) := by unfold m50; rw [hs]; rfl
 unfold m25 m32
 rw [e49, e64]
 simp only [cond_true, e50]
 cases hl : ((((V.rows a).length : Nat) : Int) == (q.takes.size : Int)) with
 | false =>
  have : ((q'.takes.size : Int) != (((V.rows a).length : Nat) : Int)) = true := by
   rw [bne_iff_ne]; intro e; rw [← hsz] at e; rw [beq_eq_false_iff_ne] at hl; exact hl e.symm
  rw [this]; rfl
 | true =>
  have hle : (((V.rows a).length : Nat) : Int) = (q.takes.size : Int) := eq_of_beq hl
  have : ((q'.takes.size : Int) != (((V.rows a).length : Nat) : Int)) = false := by
   rw [bne_eq_false_iff_eq, ← hsz]; exact hle.symm
  rw [this]
  simp only [cond_true, cond_false]
  have hlen : a.length = q.takes.size := by rw [V.rows_length] at hle; omega
  have h0 : lp (m25_b0 LG m a) a 0 () = lp (m32_b0 LG m a) a 0 () := lp_congr a 0 () fun j x s hx => by
   unfold m25_b0 m32_b0
   rw [value_check]
  have h1 : lp (m25_b1 LG m a) a 0 () = lp (m32_b1 LG m a) a 0 () := lp_congr a 0 () fun j x s hx => by
   have hj := (List.getElem?_eq_some_iff.1 hx).1
   unfold m25_b1 m32_b1
   rw [e49, e64, e50, Nat.zero_add]
   have := hk j (by omega) x
   unfold byteAt at this
   simp only
   rw [this]
  rw [h0, h1]
  cases lp (m32_b0 LG m a) a 0 () with
  | inl q => rfl
  | inr q => cases lp (m32_b1 LG m a) a 0 () <;> rfl
theorem m48_lg : m48 LG = [(QChoirref8Method.mk (ByteArray.mk #[98, 97, 108, 97, 110, 99, 101]) (ByteArray.mk #[110]) false), (QChoirref8Method.mk (ByteArray.mk #[99, 108, 111, 115, 101]) (ByteArray.mk #[110]) true), (QChoirref8Method.mk (ByteArray.mk #[100, 101, 112, 111, 115, 105, 116]) (ByteArray.mk #[110, 35]) true), (QChoirref8Method.mk (ByteArray.mk #[110, 97, 109, 101, 115]) (ByteArray.mk #[]) false), (QChoirref8Method.mk (ByteArray.mk #[111, 112, 101, 110]) (ByteArray.mk #[110]) true), (QChoirref8Method.mk (ByteArray.mk #[116, 111, 116, 97, 108]) (ByteArray.mk #[]) false), (QChoirref8Method.mk (ByteArray.mk #[116, 114, 97, 110, 115, 102, 101, 114]) (ByteArray.mk #[110, 110, 35]) true)] := by
 simp [m48, LG, ByteArray.toList_eq]
theorem k110 (x : V) : m52 110 x = m65 110 x := rfl
theorem k102 (x : V) : m52 102 x = m65 35 x := rfl
theorem find_both (m : ByteArray) : ((m49 LG m).2 = false ∧ (m64 LG m).2 = false) ∨ ∃ q q', m49 LG m = (q, true) ∧ m64 LG m = (q', true) ∧ (q.takes.toList == (ByteArray.mk #[115]).toList) = false ∧ (q'.takes.toList == (ByteArray.mk #[115]).toList) = false ∧ q.takes.size = q'.takes.size ∧
  (∀ i, i < q.takes.size → ∀ x, m52 (byteAt q.takes i) x = m65 (byteAt q'.takes i) x) := by
 unfold m49 m64
 rw [m81_lg, m48_lg]
 simp only [lp, m49_b0, m64_b0]
 generalize m.toList = t
 have one : ∀ i, i < 1 → ∀ x, m52 (byteAt (ByteArray.mk #[110]) i) x = m65 (byteAt (ByteArray.mk #[110]) i) x := fun i hi x => by
  obtain rfl : i = 0 := by omega
  exact k110 x
 have two : ∀ i, i < 2 → ∀ x, m52 (byteAt (ByteArray.mk #[110, 102]) i) x = m65 (byteAt (ByteArray.mk #[110, 35]) i) x := fun i hi x => by
  rcases (by omega : i = 0 ∨ i = 1) with rfl | rfl
  ·exact k110 x
  ·exact k102 x
 have three : ∀ i, i < 3 → ∀ x, m52 (byteAt (ByteArray.mk #[110, 110, 102]) i) x = m65 (byteAt (ByteArray.mk #[110, 110, 35]) i) x := fun i hi x => by
  rcases (by omega : i = 0 ∨ i = 1 ∨ i = 2) with rfl | rfl | rfl
  ·exact k110 x
  ·exact k110 x
  ·exact k102 x
 cases (ByteArray.mk #[98, 97, 108, 97, 110, 99, 101]).toList == t with
 | true => exact .inr ⟨_, _, rfl, rfl, by simp [ByteArray.toList_eq], by simp [ByteArray.toList_eq], rfl, one⟩
 | false =>
 cases (ByteArray.mk #[99, 108, 111, 115, 101]).toList == t with
 | true => exact .inr ⟨_, _, rfl, rfl, by simp [ByteArray.toList_eq], by simp [ByteArray.toList_eq], rfl, one⟩
 | false =>
 cases (ByteArray.mk #[100, 101, 112, 111, 115, 105, 116]).toList == t with
 | true => exact .inr ⟨_, _, rfl, rfl, by simp [ByteArray.toList_eq], by simp [ByteArray.toList_eq], rfl, two⟩
 | false =>
 cases (ByteArray.mk #[110, 97, 109, 101, 115]).toList == t with
 | true => exact .inr ⟨_, _, rfl, rfl, by simp [ByteArray.toList_eq], by simp [ByteArray.toList_eq], rfl, fun i hi => absurd hi (Nat.not_lt_zero i)⟩
 | false =>
 cases (ByteArray.mk #[111, 112, 101, 110]).toList == t with
 | true => exact .inr ⟨_, _, rfl, rfl, by simp [ByteArray.toList_eq], by simp [ByteArray.toList_eq], rfl, one⟩
 | false =>
 cases (ByteArray.mk #[116, 111, 116, 97, 108]).toList == t with
 | true => exact .inr ⟨_, _, rfl, rfl, by simp [ByteArray.toList_eq], by simp [ByteArray.toList_eq], rfl, fun i hi => absurd hi (Nat.not_lt_zero i)⟩
 | false =>
 cases (ByteArray.mk #[116, 114, 97, 110, 115, 102, 101, 114]).toList == t with
 | true => exact .inr ⟨_, _, rfl, rfl, by simp [ByteArray.toList_eq], by simp [ByteArray.toList_eq], rfl, three⟩
 | false => exact .inl ⟨rfl, rfl⟩
theorem check_same (m : ByteArray) (a : List V) : m25 LG m a = m32 LG m a := by
 rcases find_both m with ⟨h1, h2⟩ | ⟨q, q', e1, e2, h1, _, h3, h4⟩
 ·unfold m25 m32
  rw [h1, h2]; rfl
 ·exact check_core e1 e2 h1 h3 h4
theorem no_steps (m : ByteArray) : ((m64 LG m).1.takes.toList == (ByteArray.mk #[115]).toList) = false := by
 rcases find_both m with ⟨h1, h2⟩ | ⟨q, q', e1, e2, _, h2, _⟩
 ·cases hl : (lp (m64_b0 LG m) (m48 LG) 0 ()) with
  | inl q =>
   have hm : m64 LG m = q := by unfold m64; rw [hl]
   have : ∀ (l : List QChoirref8Method) (i : Nat) (s : Unit) (q : QChoirref8Method × Bool), lp (m64_b0 LG m) l i s = .inl q → q.2 = true := by
    intro l
    induction l with
    | nil => intro i s q h; cases h
    | cons y r ih =>
     intro i s q h
     simp only [lp, m64_b0] at h
     cases hy : (y.name.toList == m.toList) with
     | true => rw [hy] at h; simp only [cond_true, Sum.inl.injEq] at h; subst h; rfl
     | false => rw [hy] at h; exact ih _ _ _ h
   rw [hm] at h2
   rw [this _ _ _ _ hl] at h2; cases h2
  | inr q =>
   unfold m64
   rw [hl]
   simp [ByteArray.toList_eq]
 ·rw [e2]; exact h2
end Go.Bm
/- Amounts, rows, by the program and by the document. -/
set_option maxHeartbeats 1000000
namespace Go.Bm
open Go Go.Proofs Ieee
def ok (f : Option Nat) : Bool := match f with | none => false | some b => !(FF.read b).isNaN
theorem canon_of {f : Option Nat} (h : ok f = true) : canon f = f := by
 unfold canon
 rw [fo_self]
 cases f with
 | none => cases h
 | some b =>
  simp only [ok] at h
  cases e : (FF.read b).isNaN with
  | true => rw [e] at h; cases h
  | false =>
   show (bif (FF.read b).isNaN then some 9221120237041090561 else some b) = _
   rw [e]; rfl
theorem ok_num {f : Option Nat} (h : isNum f = true) : ok f = true := by
 cases f with
 | none => cases h
 | some b =>
  simp only [isNum] at h
  simp only [ok]
  cases e : FF.read b <;> rw [e] at h <;> first | rfl | cases h
theorem canon_nan {f : Option Nat} (h : ok f = false) : canon f = some 9221120237041090561 := by
 unfold canon
 rw [fo_self]
 cases f with
 | none => rfl
 | some b =>
  simp only [ok] at h
  cases e : (FF.read b).isNaN with
  | true =>
   show (bif (FF.read b).isNaN then some 9221120237041090561 else some b) = _
   rw [e]; rfl
  | false => rw [e] at h; cases h
theorem fa_nan_l (g : Nat → Nat → Option Nat) (hg : ∀ x y, (FF.read x).isNaN = true → g x y = none) {f : Option Nat} (h : ok f = false) (y : Option Nat) : fa g f y = none := by
 cases f with
 | none => cases y <;> rfl
 | some b =>
  cases y with
  | none => rfl
  | some c =>
   simp only [ok] at h
   cases e : (FF.read b).isNaN with
   | true => exact hg b c e
   | false => rw [e] at h; cases h
theorem add_nan (x y : Nat) (h : (FF.read x).isNaN = true) : FloatKind.f64.format.add x y = none := by
 show ((FF.read x).sum (FF.read y)).map FF.write = none
 cases e : FF.read x with
 | nan s t => rfl
 | number s m i => rw [e] at h; cases h
 | infinity s => rw [e] at h; cases h
theorem add_canon (f y : Option Nat) : fa FloatKind.f64.format.add (canon f) y = fa FloatKind.f64.format.add f y := by
 cases h : ok f with
 | true => rw [canon_of h]
 | false =>
  rw [canon_nan h, fa_nan_l _ add_nan h]
  exact fa_nan_l _ add_nan (f := some 9221120237041090561) (by decide) y
theorem num_canon (f : Option Nat) : isNum (canon f) = isNum f := by
 cases h : ok f with
 | true => rw [canon_of h]
 | false =>
  rw [canon_nan h]
  cases e : isNum f with
  | true => rw [ok_num e] at h; cases h
  | false => decide
theorem fo_canon (f y : Option Nat) : fo (canon f) y = fo f y := by
 cases h : ok f with
 | true => rw [canon_of h]
 | false =>
  rw [canon_nan h]
  have : ∀ (f : Option Nat), ok f = false → fo f y = none := fun f h => by
   cases f with
   | none => rfl
   | some b =>
    cases y with
    | none => rfl
    | some c =>
     show Datum.order (FF.read b) (FF.read c) = none
     simp only [ok] at h
     cases e : FF.read b with
     | nan s t => rfl
     | number s m i => rw [e] at h; cases h
     | infinity s => rw [e] at h; cases h
  rw [this f h, this (some 9221120237041090561) (by decide)]
def alike (x y : Option Nat) : Prop := (∀ h, fa FloatKind.f64.format.add h x = fa FloatKind.f64.format.add h y) ∧ (∀ h, fa FloatKind.f64.format.sub h x = fa FloatKind.f64.format.sub h y) ∧ (∀ h, fo h x = fo h y) ∧ ok x = ok y
theorem alike.refl (x : Option Nat) : alike x x := ⟨fun _ => rfl, fun _ => rfl, fun _ => rfl, rfl⟩
theorem alike_mod (b : Nat) : alike (some (b % 2 ^ 64)) (some b) := by
 refine ⟨fun h => ?_, fun h => ?_, fun h => ?_, ?_⟩
 ·cases h with
  | none => rfl
  | some a =>
   show ((FF.read a).sum (FF.read (b % 2 ^ 64))).map FF.write = ((FF.read a).sum (FF.read b)).map FF.write
   rw [read_mod]
 ·cases h with
  | none => rfl
  | some a =>
   show ((FF.read a).sum (FF.read (b % 2 ^ 64)).opposite).map FF.write = ((FF.read a).sum (FF.read b).opposite).map FF.write
   rw [read_mod]
 ·cases h with
  | none => rfl
  | some a =>
   show (FF.read a).order (FF.read (b % 2 ^ 64)) = (FF.read a).order (FF.read b)
   rw [read_mod]
 ·simp only [ok]; rw [read_mod]
theorem small_read {b : Nat} (h : b ≤ FF.infRung) : b % FF.signWeight = b ∧ b / FF.signWeight % 2 = 0 := by
 rw [ir] at h; rw [sw]; omega
theorem small_ok {b : Nat} (h : b ≤ FF.infRung) : ok (some b) = true := by
 obtain ⟨h1, h2⟩ := small_read h
 simp only [ok]
 rcases read_cases b with ⟨_, m, i, e, _⟩ | ⟨_, e⟩ | ⟨e, _⟩
 ·rw [e]; rfl
 ·rw [e]; rfl
 ·omega
theorem small_add {b : Nat} (h : b ≤ FF.infRung) : fa FloatKind.f64.format.add (some 0) (some b) = some b := by
 obtain ⟨h1, h2⟩ := small_read h
 have hb : b % 2 ^ 64 = b := by rw [ir] at h; omega
 rcases read_cases b with ⟨hlt, m, i, e, _⟩ | ⟨he, e⟩ | ⟨e, _⟩
 ·rw [h2] at e
  by_cases hm : m = 0
  ·subst hm
   have hb0 : b = 0 := by
    unfold Format.read at e
    simp only [h1] at e
    split at e
    ·injection e
    ·split at e
     ·injection e with _ e _
      have : 0 < FF.binade := by decide
      omega
     ·split at e <;> cases e
   subst hb0
   decide
  ·rw [zero_add_num e hm, hb]
 ·rw [h1] at he
  subst he
  decide
 ·omega
theorem nearest_small {n : Int} (h : 0 < n) : FloatKind.f64.nearest n ≤ FF.infRung := by
 show FF.nearest (decide (n < 0)) n.natAbs 0 ≤ FF.infRung
 have : decide (n < 0) = false := by simp; omega
 rw [this]
 unfold Format.nearest
 split
 ·exact Nat.zero_le _
 ·simp only [Format.word, Bool.false_eq_true, if_false]
  exact Nat.min_le_right _ _
theorem pos_read {f : Option Nat} (h : isNum f = true) (hp : (fo f (some 0) == some .gt) = true) : ∃ b m i, f = some b ∧ FF.read b = .number false m i ∧ m ≠ 0 := by
 obtain ⟨b, m, i, rfl, hr⟩ := num_read h
 have hp := eq_of_beq hp
 change Datum.order (FF.read b) (FF.read 0) = some .gt at hp
 rw [hr, read_zero] at hp
 simp only [Datum.order, Option.some.injEq] at hp
 have hgt := cmp_gt hp
 have hz : signed false 0 (FF.leastPlace - min i FF.leastPlace).toNat = 0 := by simp [signed]
 rw [hz] at hgt
 cases hs : (b / FF.signWeight % 2 == 1) with
 | true =>
  rw [hs] at hgt
  simp only [signed, if_true] at hgt
  exact absurd hgt (Int.not_lt.2 (Int.neg_nonpos_of_nonneg (Int.natCast_nonneg _)))
 | false =>
  rw [hs] at hr
  refine ⟨b, m, i, rfl, hr, fun e => ?_⟩
  subst e
  rw [hs] at hgt
  simp [signed] at hgt
theorem amount_same {v : V} (hk : v.k = 1 ∨ v.k = 2) :
  (m72 (V.clean v)).2 = (m75 v && decide (m88 v > 0)) ∧ ((m75 v && decide (m88 v > 0)) = true → ((m89 V.fzero v).1.k = 2 ∧ alike (m89 V.fzero v).1.f (m72 (V.clean v)).1 ∧ ok (m72 (V.clean v)).1 = true)) := by
 have h89 : (m89 V.fzero v).1 = V.mk 2 0 (m53 (fa FloatKind.f64.format.add (some 0) (m116 v))) (ByteArray.mk #[]) [] := by
  have h1 : m115 v = true := by unfold m115; rcases hk with h | h <;> rw [h] <;> rfl
  unfold m89 m106_107_108
  simp only [h1]
  rfl
 have h53 : ∀ f, m53 f = canon f := fun f => rfl
 obtain ⟨k, i, f, s, l⟩ := v
 simp only [V.k] at hk
 rcases hk with rfl | rfl
 ·have hc : V.clean (V.mk 1 i f s l) = V.mk 1 i (some 0) (ByteArray.mk #[]) [] := by simp [V.clean]
  rw [hc, h89, m75_int rfl]
  have h88 : m88 (V.mk 1 i f s l) = m95 (V.mk 1 i (some 0) (ByteArray.mk #[]) []) := rfl
  rw [h88]
  have h73 : m73 (V.mk 1 i (some 0) (ByteArray.mk #[]) []) = true := rfl
  have h22 : m22 (V.mk 1 i (some 0) (ByteArray.mk #[]) []) = some (FloatKind.f64.nearest i) := rfl
  have h116 : m116 (V.mk 1 i f s l) = some (FloatKind.f64.nearest i) := rfl
  have h95 : m95 (V.mk 1 i (some 0) (ByteArray.mk #[]) []) = if i < 0 then -1 else if 0 < i then 1 else 0 := by
   simp only [m95, V.k, V.i]
   by_cases h1 : i < 0
   ·simp [h1]
   ·by_cases h2 : 0 < i
    ·have : decide (i > 0) = true := by simpa using h2
     simp [h1, h2]
    ·simp [h1, h2]
  unfold m72
  rw [h73, h22]
  by_cases hp : 0 < i
  ·have h1 : ¬ i < 0 := by omega
   rw [h95, if_neg h1, if_pos hp]
   refine ⟨rfl, fun _ => ?_⟩
   have hs := nearest_small hp
   rw [h116, small_add hs, h53, canon_of (small_ok hs)]
   exact ⟨rfl, alike.refl _, small_ok hs⟩
  ·have h0 : (if i < 0 then (-1 : Int) else if 0 < i then 1 else 0) ≤ 0 := by
    rw [if_neg hp]; split <;> decide
   rw [h95]
   have e1 : decide ((if i < 0 then (-1 : Int) else if 0 < i then 1 else 0) ≤ 0) = true := by simpa using h0
   have e2 : decide ((if i < 0 then (-1 : Int) else if 0 < i then 1 else 0) > 0) = false := by simpa using h0
   rw [e1, e2]
   exact ⟨rfl, fun h => by cases h⟩
 ·have hc : V.clean (V.mk 2 i f s l) = V.mk 2 0 (canon f) (ByteArray.mk #[]) [] := by simp [V.clean]
  rw [hc, h89, m75_num rfl]
  have h73 : m73 (V.mk 2 0 (canon f) (ByteArray.mk #[]) []) = isNum f := by rw [m73_num rfl]; exact num_canon f
  have h22 : m22 (V.mk 2 0 (canon f) (ByteArray.mk #[]) []) = canon f := rfl
  have h116 : m116 (V.mk 2 i f s l) = f := rfl
  have h95 : m95 (V.mk 2 0 (canon f) (ByteArray.mk #[]) []) = bif (fo f (some 0) == some .lt) then -1 else bif (fo f (some 0) == some .gt) then 1 else 0 := by
   have : m95 (V.mk 2 0 (canon f) (ByteArray.mk #[]) []) = bif (fo (canon f) (some 0) == some .lt) then -1 else bif (fo (canon f) (some 0) == some .gt) then 1 else 0 := rfl
   rw [this, fo_canon]
  have h88 : m88 (V.mk 2 i f s l) = bif (fo f (some 0) == some .lt) then -1 else bif (fo f (some 0) == some .gt) then 1 else 0 := rfl
  unfold m72
  rw [h73, h22, h95, h88]
  simp only [V.f]
  cases hn : isNum f with
  | false => exact ⟨rfl, fun h => by cases h⟩
  | true =>
   simp only [cond_true, Bool.true_and]
   cases hlt : (fo f (some 0) == some .lt) with
   | true => exact ⟨rfl, fun h => by cases h⟩
   | false =>
    cases hgt : (fo f (some 0) == some .gt) with
    | false => exact ⟨rfl, fun h => by cases h⟩
    | true =>
     refine ⟨rfl, fun _ => ?_⟩
     obtain ⟨b, m, j, rfl, hr, hm⟩ := pos_read hn hgt
     rw [h116, zero_add_num hr hm, h53]
     have ho : ok (some (b % 2 ^ 64)) = true := by simp only [ok]; rw [read_mod, hr]; rfl
     have ho2 : ok (some b) = true := by simp only [ok]; rw [hr]; rfl
     rw [canon_of ho, canon_of ho2]
     exact ⟨rfl, alike_mod b, ho2⟩
end Go.Bm
/- A right book; what a call asks. -/
set_option maxHeartbeats 1000000
namespace Go.Bm
open Go Go.Proofs Ieee
def mkN (f : Option Nat) : V := V.mk 2 0 f (ByteArray.mk #[]) []
def mkS (n : ByteArray) : V := V.mk 3 0 (some 0) n []
def mkL (L : List V) : V := V.mk 4 0 (some 0) (ByteArray.mk #[]) L
def mkA (n : ByteArray) (f : Option Nat) : V := mkL [mkS n, mkN f]
structure Acc (n : ByteArray) (f : Option Nat) : Prop where
 num : isNum f = true
 sgn : m76 f = false
 lo : 1 ≤ n.size
 hi : n.size ≤ 32
structure Rb (L : List V) : Prop where
 sorted : Sorted L
 rows : ∀ x ∈ L, ∃ n f, x = mkA n f ∧ Acc n f
 len : L.length ≤ 32
theorem clean_name {v : V} (h : v.k = 3) : V.clean v = mkS v.s := by
 obtain ⟨k, i, f, s, l⟩ := v
 simp only [V.k] at h
 subst h
 simp [V.clean, mkS, V.s]
theorem clean_num {v : V} (h : v.k = 2) : V.clean v = mkN (canon v.f) := by
 obtain ⟨k, i, f, s, l⟩ := v
 simp only [V.k] at h
 subst h
 simp [V.clean, mkN, V.f]
theorem row_clean {x : V} (h : Row40 x) : V.clean x = mkA (x.l[0]?.getD default).s (x.l[1]?.getD default).f ∧ Acc (x.l[0]?.getD default).s (x.l[1]?.getD default).f := by
 obtain ⟨hk, h1, h2⟩ := name_size h.name
 have hn : isNum (x.l[1]?.getD default).f = true := by rw [← m75_num h.fk]; exact h.fin
 refine ⟨?_, hn, h.sgn, h1, h2⟩
 rw [clean_list h.k, two_list h.len]
 simp only [List.map_cons, List.map_nil, clean_name hk, clean_num h.fk, canon_of (ok_num hn)]
 rfl
theorem right_bk {s : V} (h : m15 s = true) : V.clean s = mkL (V.clean s).l ∧ Rb (V.clean s).l := by
 have hr := right15 h
 have hc := clean_list hr.k
 have hl : (V.clean s).l = s.l.map V.clean := by rw [hc]; rfl
 refine ⟨by rw [hl]; exact hc, ?_, ?_, ?_⟩
 ·rw [hl]
  refine sorted_of fun j x y hx hy => ?_
  rw [List.getElem?_map] at hx hy
  cases h1 : s.l[j]? with
  | none => rw [h1] at hx; cases hx
  | some x' =>
   cases h2 : s.l[j + 1]? with
   | none => rw [h2] at hy; cases hy
   | some y' =>
    rw [h1] at hx; rw [h2] at hy
    cases hx; cases hy
    have := hr.ord j x' y' h1 h2
    rw [(row_clean (row40 (hr.row _ _ h1))).1, (row_clean (row40 (hr.row _ _ h2))).1]
    exact this
 ·rw [hl]
  intro x hx
  obtain ⟨y, hy, rfl⟩ := List.mem_map.1 hx
  obtain ⟨j, hj⟩ := List.getElem?_of_mem hy
  have := row_clean (row40 (hr.row j y hj))
  exact ⟨_, _, this.1, this.2⟩
 ·rw [hl, List.length_map]; exact hr.len
theorem lp_inr {α ρ : Type} {body : α → Nat → Unit → Rd ρ Unit} {p : α → Nat → Bool} {r : ρ} (hb : ∀ x i s, body x i s = bif p x i then .next () else .ret r) : ∀ (l : List α) (i : Nat) (q : Nat × Unit), lp body l i () = .inr q → ∀ (j : Nat) (x : α), l[j]? = some x → p x (i + j) = true
 | [], i, q, _, j, x, hx => by simp at hx
 | y :: t, i, q, h, j, x, hx => by
  simp only [lp, hb] at h
  cases hp : p y i with
  | false => rw [hp] at h; cases h
  | true =>
   rw [hp] at h
   cases j with
   | zero => simp at hx; subst hx; exact hp
   | succ j => rw [show i + (j + 1) = i + 1 + j by omega]; exact lp_inr hb t (i + 1) q h j x (by simpa using hx)
theorem lp_ret {α ρ : Type} {body : α → Nat → Unit → Rd ρ Unit} {p : α → Nat → Bool} {r : ρ} (hb : ∀ x i s, body x i s = bif p x i then .next () else .ret r) : ∀ (l : List α) (i : Nat) (q : ρ), lp body l i () = .inl q → q = r
 | [], i, q, h => by cases h
 | y :: t, i, q, h => by
  simp only [lp, hb] at h
  cases hp : p y i with
  | false => rw [hp] at h; cases h; rfl
  | true => rw [hp] at h; exact lp_ret hb t (i + 1) q h
theorem asked {m : ByteArray} {a : List V} (h : m25 LG m a = 0) : ∃ q, m49 LG m = (q, true) ∧ a.length = q.takes.size ∧ ∀ j x, a[j]? = some x → m52 (byteAt q.takes j) x = true := by
 rcases find_both m with ⟨h1, _⟩ | ⟨q, q', e1, e2, hs, _, _, _⟩
 ·unfold m25 at h; rw [h1] at h; cases h
 ·have e50 : m50 q (((V.rows a).length : Nat) : Int) = (q.takes, ((((V.rows a).length : Nat) : Int) == (q.takes.size : Int))) := by unfold m50; rw [hs]; rfl
  refine ⟨q, e1, ?_⟩
  unfold m25 at h
  simp only [e1, e50, cond_true] at h
  cases hl : ((((V.rows a).length : Nat) : Int) == (q.takes.size : Int)) with
  | false => rw [hl] at h; cases h
  | true =>
   rw [hl] at h
   simp only [cond_true] at h
   have := eq_of_beq hl
   rw [V.rows_length] at this
   refine ⟨by omega, ?_⟩
   cases h0 : lp (m25_b0 LG m a) a 0 () with
   | inl r =>
    rw [h0] at h
    simp only at h
    subst h
    have : ∀ (l : List V) (i : Nat) (q : Int), lp (m25_b0 LG m a) l i () = .inl q → q ≠ 0 := by
     intro l
     induction l with
     | nil => intro i q h; cases h
     | cons y t ih =>
      intro i q h
      simp only [lp, m25_b0] at h
      cases hy : (m51 y != (0 : Int)) with
      | true => rw [hy] at h; cases h; simpa using hy
      | false => rw [hy] at h; exact ih _ _ h
    exact absurd rfl (this _ _ _ h0)
   | inr r =>
    rw [h0] at h
    simp only at h
    have hb : ∀ x i s, m25_b1 LG m a x i s = bif m52 (byteAt q.takes i) x then .next () else .ret 31 := fun x i s => by
     unfold m25_b1 byteAt
     rw [e1, e50]
    cases h1 : lp (m25_b1 LG m a) a 0 () with
    | inl r => rw [h1] at h; simp only at h; rw [lp_ret hb _ _ _ h1] at h; cases h
    | inr r => intro j x hx; have := lp_inr hb _ _ _ h1 j x hx; rwa [Nat.zero_add] at this
structure IsN (v : V) : Prop where
 k : v.k = 3
 lo : 1 ≤ v.s.size
 hi : v.s.size ≤ 32
def IsF (v : V) : Prop := v.k = 1 ∨ v.k = 2
theorem isN {v : V} (h : m52 110 v = true) : IsN v := by
 obtain ⟨h1, h2, h3⟩ := name_size (v := v) h
 exact ⟨h1, h2, h3⟩
theorem isF {v : V} (h : m52 102 v = true) : IsF v := by
 change (bif (v.k == (1 : Int)) then true else (v.k == (2 : Int))) = true at h
 cases h1 : v.k == (1 : Int) with
 | true => exact .inl (eq_of_beq h1)
 | false => rw [h1] at h; exact .inr (eq_of_beq h)
inductive Ask (m : ByteArray) : List V → Prop where
 | bal (a0 : V) (h : (m.toList == (ByteArray.mk #[98, 97, 108, 97, 110, 99, 101]).toList) = true) (h0 : IsN a0) : Ask m [a0]
 | clo (a0 : V) (h : (m.toList == (ByteArray.mk #[99, 108, 111, 115, 101]).toList) = true) (h0 : IsN a0) : Ask m [a0]
 | dep (a0 a1 : V) (h : (m.toList == (ByteArray.mk #[100, 101, 112, 111, 115, 105, 116]).toList) = true) (h0 : IsN a0) (h1 : IsF a1) : Ask m [a0, a1]
 | nam (h : (m.toList == (ByteArray.mk #[110, 97, 109, 101, 115]).toList) = true) : Ask m []
 | opn (a0 : V) (h : (m.toList == (ByteArray.mk #[111, 112, 101, 110]).toList) = true) (h0 : IsN a0) : Ask m [a0]
 | tot (h : (m.toList == (ByteArray.mk #[116, 111, 116, 97, 108]).toList) = true) : Ask m []
 | mov (a0 a1 a2 : V) (h : (m.toList == (ByteArray.mk #[116, 114, 97, 110, 115, 102, 101, 114]).toList) = true) (h0 : IsN a0) (h1 : IsN a1) (h2 : IsF a2) : Ask m [a0, a1, a2]
theorem ask_of {m : ByteArray} {a : List V} (h : m25 LG m a = 0) : Ask m a := by
 obtain ⟨q, e, hl, hk⟩ := asked h
 unfold m49 at e
 rw [m81_lg] at e
 simp only [lp, m49_b0] at e
 cases c : (ByteArray.mk #[98, 97, 108, 97, 110, 99, 101]).toList == m.toList with
 | true =>
  simp only [c, cond_true, Prod.mk.injEq] at e
  obtain ⟨rfl, _⟩ := e
  match a, hl, hk with
  | [a0], _, hk => exact .bal a0 (by rw [beq_sw]; exact c) (isN (hk 0 a0 rfl))
 | false =>
 simp only [c, cond_false] at e
 cases c : (ByteArray.mk #[99, 108, 111, 115, 101]).toList == m.toList with
 | true =>
  simp only [c, cond_true, Prod.mk.injEq] at e
  obtain ⟨rfl, _⟩ := e
  match a, hl, hk with
  | [a0], _, hk => exact .clo a0 (by rw [beq_sw]; exact c) (isN (hk 0 a0 rfl))
 | false =>
 simp only [c, cond_false] at e
 cases c : (ByteArray.mk #[100, 101, 112, 111, 115, 105, 116]).toList == m.toList with
 | true =>
  simp only [c, cond_true, Prod.mk.injEq] at e
  obtain ⟨rfl, _⟩ := e
  match a, hl, hk with
  | [a0, a1], _, hk => exact .dep a0 a1 (by rw [beq_sw]; exact c) (isN (hk 0 a0 rfl)) (isF (hk 1 a1 rfl))
 | false =>
 simp only [c, cond_false] at e
 cases c : (ByteArray.mk #[110, 97, 109, 101, 115]).toList == m.toList with
 | true =>
  simp only [c, cond_true, Prod.mk.injEq] at e
  obtain ⟨rfl, _⟩ := e
  match a, hl with
  | [], _ => exact .nam (by rw [beq_sw]; exact c)
 | false =>
 simp only [c, cond_false] at e
 cases c : (ByteArray.mk #[111, 112, 101, 110]).toList == m.toList with
 | true =>
  simp only [c, cond_true, Prod.mk.injEq] at e
  obtain ⟨rfl, _⟩ := e
  match a, hl, hk with
  | [a0], _, hk => exact .opn a0 (by rw [beq_sw]; exact c) (isN (hk 0 a0 rfl))
 | false =>
 simp only [c, cond_false] at e
 cases c : (ByteArray.mk #[116, 111, 116, 97, 108]).toList == m.toList with
 | true =>
  simp only [c, cond_true, Prod.mk.injEq] at e
  obtain ⟨rfl, _⟩ := e
  match a, hl with
  | [], _ => exact .tot (by rw [beq_sw]; exact c)
 | false =>
 simp only [c, cond_false] at e
 cases c : (ByteArray.mk #[116, 114, 97, 110, 115, 102, 101, 114]).toList == m.toList with
 | true =>
  simp only [c, cond_true, Prod.mk.injEq] at e
  obtain ⟨rfl, _⟩ := e
  match a, hl, hk with
  | [a0, a1, a2], _, hk => exact .mov a0 a1 a2 (by rw [beq_sw]; exact c) (isN (hk 0 a0 rfl)) (isN (hk 1 a1 rfl)) (isF (hk 2 a2 rfl))
 | false =>
  simp only [c, cond_false] at e
  cases e
theorem seek {L : List V} (hb : Rb L) (y : V) : ∃ i, Pos L y.s.toList i ∧ m86 ⟨L⟩ y = ((i : Int), found L y.s.toList i) ∧ m69 (mkL L) y.s = ((i : Int), found L y.s.toList i) := by
 have e := find_same (st := mkL L) hb.sorted (by have := hb.len; show L.length ≤ _; omega) y
 obtain ⟨i, hp, h⟩ := m69_spec (st := mkL L) hb.sorted y.s
 exact ⟨i, hp, e.trans h, h⟩
theorem ba_inj {a b : ByteArray} (h : a.toList = b.toList) : a = b := by
 rw [ByteArray.toList_eq, ByteArray.toList_eq] at h
 cases a; cases b
 simp only [ByteArray.mk.injEq]
 exact Array.toList_inj.1 h
theorem got {L : List V} (hb : Rb L) {y : V} {i : Nat} (h : found L y.s.toList i = true) : i < L.length ∧ ∃ f, L[i]? = some (mkA y.s f) ∧ Acc y.s f := by
 unfold found at h
 rw [Bool.and_eq_true] at h
 have hi := of_decide_eq_true h.1
 refine ⟨hi, ?_⟩
 have hg := get_of hi
 obtain ⟨n, f, e, ha⟩ := hb.rows _ (getD_mem hi)
 have hn := eq_of_beq h.2
 rw [e] at hn
 have : n = y.s := ba_inj hn
 subst this
 exact ⟨f, by rw [hg, e], ha⟩
theorem m89_num (f g : Option Nat) : (m89 (mkN f) (mkN g)).1 = mkN (canon (fa FloatKind.f64.format.add f g)) := rfl
theorem m90_num (f g : Option Nat) : (m90 (mkN f) (mkN g)).1 = mkN (canon (fa FloatKind.f64.format.sub f g)) := rfl
theorem m20_eq (f : Option Nat) : m20 f = mkN (canon f) := rfl
theorem m73_mk (f : Option Nat) : m73 (mkN f) = isNum f := m73_num rfl
theorem m75_mk (f : Option Nat) : m75 (mkN f) = isNum f := m75_num rfl
end Go.Bm
/- What a call comes to, by the program and by the document. -/
set_option maxHeartbeats 1000000
namespace Go.Bm
open Go Go.Proofs Ieee
def ansO (r : Ou (V × List V)) : V × V × Int := match r with
 | .ret (r, l') => (mkL l', r, 0)
 | .pan v => (V.zero, V.zero, errOf v)
def er (e : Int) : Value := .iface 86 (.agg #[(.int .i64 e)])
theorem m57_eq (b : Bool) (e : Int) : m57 b e = bif b then .ret () else .pan (er e) := rfl
theorem m56_eq {L : List V} {y : V} {i : Int} {b : Bool} (h : m86 ⟨L⟩ y = (i, b)) : m56 ⟨L⟩ y = bif b then .ret i else .pan (er 30) := by
 unfold m56
 rw [h, m57_eq]
 cases b <;> rfl
theorem take_all (L : List V) : L.take (((V.rows L).length : Nat) : Int).toNat = L := by
 rw [Int.toNat_natCast, V.rows_length, List.take_length]
theorem wrap1 {i : Nat} (h : i ≤ 1000000) : ((IntKind.i64.wrap (((i : Nat) : Int) + 1)) : Int).toNat = i + 1 := by
 rw [IntKind.wrap_i64]; omega
theorem m70_set {L : List V} {i : Nat} (hi : i < L.length) (hl : L.length ≤ 1000000) (n : ByteArray) (e : V) : m70 (mkL L) ((i : Nat) : Int) true n e = mkL (L.set i (mkL [mkS n, e])) := by
 show V.mk 4 0 (some 0) (ByteArray.mk #[]) ((([] ++ (L.take i).drop 0) ++ [(m18 ([(m19 n), e]))]) ++ ((L.take (((V.rows L).length : Nat) : Int).toNat).drop ((IntKind.i64.wrap (((i : Nat) : Int) + 1)) : Int).toNat)) = _
 rw [take_all, wrap1 (by omega), List.set_eq_take_append_cons_drop, if_pos hi, List.nil_append, List.drop_zero, List.append_assoc]
 rfl
theorem m70_ins {L : List V} {i : Nat} (n : ByteArray) (e : V) : m70 (mkL L) ((i : Nat) : Int) false n e = mkL (L.take i ++ [mkL [mkS n, e]] ++ L.drop i) := by
 show V.mk 4 0 (some 0) (ByteArray.mk #[]) ((([] ++ (L.take i).drop 0) ++ [(m18 ([(m19 n), e]))]) ++ ((L.take (((V.rows L).length : Nat) : Int).toNat).drop (((i : Nat) : Int)).toNat)) = _
 rw [take_all, List.nil_append, List.drop_zero]
 rfl
theorem m71_del {L : List V} {i : Nat} (h : i ≤ 1000000) : m71 (mkL L) ((i : Nat) : Int) = mkL (L.take i ++ L.drop (i + 1)) := by
 show V.mk 4 0 (some 0) (ByteArray.mk #[]) (([] ++ (L.take i).drop 0) ++ ((L.take (((V.rows L).length : Nat) : Int).toNat).drop ((IntKind.i64.wrap (((i : Nat) : Int) + 1)) : Int).toNat)) = _
 rw [take_all, wrap1 h, List.nil_append, List.drop_zero]
 rfl
theorem getD_of {L : List V} {i : Nat} {x : V} (h : L[i]? = some x) : L[i]?.getD default = x := by rw [h]; rfl
theorem num_ok {f : Option Nat} (h : isNum f = true) : canon f = f := canon_of (ok_num h)
theorem eq_gt {f : Option Nat} (h : isNum f = true) (hs : m76 f = false) : (fo f (some 0) == some .eq) = !(fo f (some 0) == some .gt) := by
 have := ge_of_num h hs
 cases hf : fo f (some 0) with
 | none => rw [hf] at this; cases this
 | some c => cases c <;> first | rfl | (rw [hf] at this; cases this)
theorem ge_lt {f g : Option Nat} (h : ok f = true) (h' : ok g = true) : (fo f g == some .gt || fo f g == some .eq) = !(fo f g == some .lt) := by
 have : fo f g ≠ none := by
  cases f with
  | none => cases h
  | some b => cases g with
   | none => cases h'
   | some c =>
    show Datum.order (FF.read b) (FF.read c) ≠ none
    simp only [ok] at h h'
    cases e : FF.read b with
    | nan s t => rw [e] at h; cases h
    | number s m i =>
     cases e' : FF.read c with
     | nan s t => rw [e'] at h'; cases h'
     | number s m i => simp [Datum.order]
     | infinity s => simp [Datum.order]
    | infinity s =>
     cases e' : FF.read c with
     | nan s t => rw [e'] at h'; cases h'
     | number s m i => simp [Datum.order]
     | infinity s => simp [Datum.order]
 cases hf : fo f g with
 | none => exact absurd hf this
 | some c => cases c <;> rfl
theorem same_opn {L : List V} (hb : Rb L) {a0 : V} {m : ByteArray} (h : (m.toList == (ByteArray.mk #[111, 112, 101, 110]).toList) = true) (h0 : IsN a0) : ansO (doB L m [a0]) = m39 (mkL L) m (V.cleans [a0]) := by
 have d1 := str_ne h (y := (ByteArray.mk #[100, 101, 112, 111, 115, 105, 116]).toList) (by simp [ByteArray.toList_eq])
 have d2 := str_ne h (y := (ByteArray.mk #[116, 114, 97, 110, 115, 102, 101, 114]).toList) (by simp [ByteArray.toList_eq])
 have d3 := str_ne h (y := (ByteArray.mk #[110, 97, 109, 101, 115]).toList) (by simp [ByteArray.toList_eq])
 have d4 := str_ne h (y := (ByteArray.mk #[116, 111, 116, 97, 108]).toList) (by simp [ByteArray.toList_eq])
 obtain ⟨i, hp, e1, e2⟩ := seek hb a0
 have hc : (V.cleans [a0])[0]?.getD default = mkS a0.s := by rw [← clean_name h0.k]; rfl
 have hs : (mkS a0.s).s = a0.s := rfl
 unfold doB opnB m39
 simp only [h, d1, d2, d3, d4, hc, hs, e2, cond_true, cond_false]
 show ansO (match (match m57 (!(m86 ⟨L⟩ a0).2) 32 with | .pan v => .pan v | .ret _ => _ : Ou (List V)) with | .pan v => .pan v | .ret l' => .ret (V.zero, l')) = _
 simp only [List.getElem?_cons_zero, Option.getD_some, e1, m57_eq]
 cases found L a0.s.toList i with
 | true => rfl
 | false =>
  simp only [Bool.not_false, cond_true, cond_false]
  rw [V.rows_length]
  show _ = (bif decide (((L.length : Nat) : Int) ≥ 32) then _ else _)
  by_cases hl : L.length < 32
  ·have h1 : decide (((L.length : Nat) : Int) < 32) = true := by simp; omega
   have h2 : decide (((L.length : Nat) : Int) ≥ 32) = false := by simp; omega
   rw [h1, h2]
   simp only [cond_true, cond_false, m70_ins, Int.toNat_natCast, ansO, clean_name h0.k]
   rfl
  ·have h1 : decide (((L.length : Nat) : Int) < 32) = false := by simp; omega
   have h2 : decide (((L.length : Nat) : Int) ≥ 32) = true := by simp; omega
   rw [h1, h2]
   rfl
theorem same_clo {L : List V} (hb : Rb L) {a0 : V} {m : ByteArray} (h : (m.toList == (ByteArray.mk #[99, 108, 111, 115, 101]).toList) = true) (h0 : IsN a0) : ansO (doB L m [a0]) = m39 (mkL L) m (V.cleans [a0]) := by
 have d1 := str_ne h (y := (ByteArray.mk #[100, 101, 112, 111, 115, 105, 116]).toList) (by simp [ByteArray.toList_eq])
 have d2 := str_ne h (y := (ByteArray.mk #[116, 114, 97, 110, 115, 102, 101, 114]).toList) (by simp [ByteArray.toList_eq])
 have d3 := str_ne h (y := (ByteArray.mk #[110, 97, 109, 101, 115]).toList) (by simp [ByteArray.toList_eq])
 have d4 := str_ne h (y := (ByteArray.mk #[116, 111, 116, 97, 108]).toList) (by simp [ByteArray.toList_eq])
 have d5 := str_ne h (y := (ByteArray.mk #[111, 112, 101, 110]).toList) (by simp [ByteArray.toList_eq])
 have d6 := str_ne h (y := (ByteArray.mk #[98, 97, 108, 97, 110, 99, 101]).toList) (by simp [ByteArray.toList_eq])
 obtain ⟨i, hp, e1, e2⟩ := seek hb a0
 have hc : (V.cleans [a0])[0]?.getD default = mkS a0.s := by rw [← clean_name h0.k]; rfl
 have hs : (mkS a0.s).s = a0.s := rfl
 unfold doB m39
 simp only [h, d1, d2, d3, d4, d5, d6, hc, hs, e2, cond_true, cond_false, List.getElem?_cons_zero, Option.getD_some, m56_eq e1, m57_eq]
 cases hf : found L a0.s.toList i with
 | false => rfl
 | true =>
  obtain ⟨hi, f, hg, ha⟩ := got hb hf
  simp only [cond_true, Int.toNat_natCast]
  show _ = (bif (fo (((L[i]?.getD default).l[1]?.getD default).f) (some 0) == some .gt) then _ else _)
  rw [getD_of hg]
  show ansO (match (bif (fo f (some 0) == some .eq) then _ else _ : Ou Unit) with | .pan v => _ | .ret _ => _) = (bif (fo f (some 0) == some .gt) then _ else _)
  rw [eq_gt ha.num ha.sgn]
  cases (fo f (some 0) == some .gt) with
  | true => rfl
  | false =>
   simp only [Bool.not_false, cond_true, cond_false]
   rw [m71_del (by have := hb.len; omega)]
   rfl
theorem same_bal {L : List V} (hb : Rb L) {a0 : V} {m : ByteArray} (h : (m.toList == (ByteArray.mk #[98, 97, 108, 97, 110, 99, 101]).toList) = true) (h0 : IsN a0) : ansO (doB L m [a0]) = m39 (mkL L) m (V.cleans [a0]) := by
 have d1 := str_ne h (y := (ByteArray.mk #[100, 101, 112, 111, 115, 105, 116]).toList) (by simp [ByteArray.toList_eq])
 have d2 := str_ne h (y := (ByteArray.mk #[116, 114, 97, 110, 115, 102, 101, 114]).toList) (by simp [ByteArray.toList_eq])
 have d3 := str_ne h (y := (ByteArray.mk #[110, 97, 109, 101, 115]).toList) (by simp [ByteArray.toList_eq])
 have d4 := str_ne h (y := (ByteArray.mk #[116, 111, 116, 97, 108]).toList) (by simp [ByteArray.toList_eq])
 have d5 := str_ne h (y := (ByteArray.mk #[111, 112, 101, 110]).toList) (by simp [ByteArray.toList_eq])
 have d6 := str_ne h (y := (ByteArray.mk #[99, 108, 111, 115, 101]).toList) (by simp [ByteArray.toList_eq])
 obtain ⟨i, hp, e1, e2⟩ := seek hb a0
 have hc : (V.cleans [a0])[0]?.getD default = mkS a0.s := by rw [← clean_name h0.k]; rfl
 have hs : (mkS a0.s).s = a0.s := rfl
 unfold doB m29 m39
 simp only [h, d1, d2, d3, d4, d5, d6, hc, hs, e2, cond_true, cond_false, List.getElem?_cons_zero, Option.getD_some, m56_eq e1, m57_eq]
 cases hf : found L a0.s.toList i with
 | false => rfl
 | true =>
  obtain ⟨hi, f, hg, ha⟩ := got hb hf
  simp only [cond_true, Int.toNat_natCast]
  show ansO (.ret ((L[i]?.getD default).l[1]?.getD default, L)) = (mkL L, m20 (((L[i]?.getD default).l[1]?.getD default).f), 0)
  rw [getD_of hg]
  show (mkL L, mkN f, (0 : Int)) = (mkL L, mkN (canon f), 0)
  rw [num_ok ha.num]
theorem same_nam {L : List V} {m : ByteArray} (h : (m.toList == (ByteArray.mk #[110, 97, 109, 101, 115]).toList) = true) : ansO (doB L m []) = m39 (mkL L) m (V.cleans []) := by
 have d1 := str_ne h (y := (ByteArray.mk #[100, 101, 112, 111, 115, 105, 116]).toList) (by simp [ByteArray.toList_eq])
 have d2 := str_ne h (y := (ByteArray.mk #[116, 114, 97, 110, 115, 102, 101, 114]).toList) (by simp [ByteArray.toList_eq])
 have d5 := str_ne h (y := (ByteArray.mk #[111, 112, 101, 110]).toList) (by simp [ByteArray.toList_eq])
 have d6 := str_ne h (y := (ByteArray.mk #[99, 108, 111, 115, 101]).toList) (by simp [ByteArray.toList_eq])
 have d7 := str_ne h (y := (ByteArray.mk #[98, 97, 108, 97, 110, 99, 101]).toList) (by simp [ByteArray.toList_eq])
 unfold doB m29 m39
 simp only [h, d1, d2, d5, d6, d7, cond_true, cond_false]
 rfl
theorem lp2_snoc {α β : Type} (g : α → β) : ∀ (l : List α) (i : Nat) (s : List β), lp2 (fun x _ s => s ++ [g x]) l i s = s ++ l.map g
 | [], _, s => by simp [lp2]
 | x :: r, i, s => by simp only [lp2]; rw [lp2_snoc g r]; simp
theorem sum_same : ∀ (l : List V) (i j : Nat) (f g : Option Nat), (∀ x ∈ l, ∃ n f, x = mkA n f) → canon g = canon f →
  (lp (m62_b0 []) (l.map fun x => x.l[1]?.getD default) i (2, 0, canon f, ByteArray.mk #[], []) = .inr (i + l.length, (2, 0, canon (lp2 (m39_b0 default default []) l j g), ByteArray.mk #[], [])))
 | [], i, j, f, g, _, e => by simp only [List.map_nil, lp, lp2, e, List.length_nil, Nat.add_zero]
 | x :: r, i, j, f, g, h, e => by
  obtain ⟨n, y, rfl⟩ := h x (by simp)
  simp only [List.map_cons, lp, lp2]
  have hb : m62_b0 [] ((mkA n y).l[1]?.getD default) i (2, 0, canon f, ByteArray.mk #[], []) = .next (2, 0, canon (fa FloatKind.f64.format.add (canon f) y), ByteArray.mk #[], []) := rfl
  rw [hb]
  simp only
  rw [sum_same r (i + 1) (j + 1) (fa FloatKind.f64.format.add (canon f) y) (m39_b0 default default [] (mkA n y) j g) (fun x hx => h x (by simp [hx])) ?_]
  ·simp only [List.length_cons, Sum.inr.injEq, Prod.mk.injEq, and_true]; omega
  ·show canon (fa FloatKind.f64.format.add g y) = _
   rw [← e, add_canon]
theorem same_tot {L : List V} (hb : Rb L) {m : ByteArray} (h : (m.toList == (ByteArray.mk #[116, 111, 116, 97, 108]).toList) = true) : ansO (doB L m []) = m39 (mkL L) m (V.cleans []) := by
 have d1 := str_ne h (y := (ByteArray.mk #[100, 101, 112, 111, 115, 105, 116]).toList) (by simp [ByteArray.toList_eq])
 have d2 := str_ne h (y := (ByteArray.mk #[116, 114, 97, 110, 115, 102, 101, 114]).toList) (by simp [ByteArray.toList_eq])
 have d3 := str_ne h (y := (ByteArray.mk #[110, 97, 109, 101, 115]).toList) (by simp [ByteArray.toList_eq])
 have d5 := str_ne h (y := (ByteArray.mk #[111, 112, 101, 110]).toList) (by simp [ByteArray.toList_eq])
 have d6 := str_ne h (y := (ByteArray.mk #[99, 108, 111, 115, 101]).toList) (by simp [ByteArray.toList_eq])
 have d7 := str_ne h (y := (ByteArray.mk #[98, 97, 108, 97, 110, 99, 101]).toList) (by simp [ByteArray.toList_eq])
 have hs := sum_same L 1 0 (some 0) (some 0) (fun x hx => by obtain ⟨n, f, e, _⟩ := hb.rows x hx; exact ⟨n, f, e⟩) rfl
 have h1 : lp2 (m29_b1 ⟨L⟩ m []) L 0 [mkN (some 0)] = mkN (some 0) :: L.map (fun x => x.l[1]?.getD default) := by
  show lp2 (fun x _ s => s ++ [x.l[1]?.getD default]) L 0 [mkN (some 0)] = _
  rw [lp2_snoc]; rfl
 have h2 : (m62 (lp2 (m29_b1 ⟨L⟩ m []) L 0 [mkN (some 0)])).1 = mkN (canon (lp2 (m39_b0 default default []) L 0 (some 0))) := by
  rw [h1]
  unfold m62
  simp only [lp]
  have hb : m62_b0 (mkN (some 0) :: L.map (fun x => x.l[1]?.getD default)) (mkN (some 0)) 0 (1, 0, some 0, ByteArray.mk #[], []) = .next (2, 0, canon (some 0), ByteArray.mk #[], []) := by
   have : fa FloatKind.f64.format.add (some (FloatKind.f64.nearest 0)) (some 0) = some 0 := by decide
   show Rd.next (2, 0, canon (fa FloatKind.f64.format.add (some (FloatKind.f64.nearest 0)) (some 0)), ByteArray.mk #[], []) = _
   rw [this]
  rw [hb]
  simp only
  change (match lp (m62_b0 []) (L.map fun x => x.l[1]?.getD default) 1 (2, 0, canon (some 0), ByteArray.mk #[], []) with | .inl q1 => _ | .inr q1 => _ : V × Int).1 = _
  rw [hs]
  rfl
 unfold doB m29 m39
 simp only [h, d1, d2, d3, d5, d6, d7, cond_true, cond_false]
 show (mkL L, (m62 (lp2 (m29_b1 ⟨L⟩ m []) L 0 [mkN (some 0)])).1, (0 : Int)) = (mkL L, mkN (canon (lp2 (m39_b0 default default []) L 0 (some 0))), 0)
 rw [h2]
end Go.Bm
/- Deposit and transfer; Do and the document agree. -/
set_option maxHeartbeats 1000000
namespace Go.Bm
open Go Go.Proofs Ieee
def amt (a : V) : Option Nat := (m89 V.fzero a).1.f
theorem m59_eq {a : V} (h : IsF a) : m59 a = bif (m72 (V.clean a)).2 then .ret (mkN (amt a)) else .pan (er 35) := by
 obtain ⟨h1, h2⟩ := amount_same h
 rw [h1]
 have h115 : m115 a = true := by unfold m115; rcases h with h | h <;> rw [h] <;> rfl
 have h89 : (m89 V.fzero a).1 = mkN (amt a) := by
  unfold amt m89 m106_107_108
  simp only [h115]
  rfl
 change m59 a = bif (m75 a && decide (m88 a > 0)) then .ret (mkN (amt a)) else .pan (er 35)
 rw [← h89]
 unfold m59
 cases m75 a with
 | false => rfl
 | true =>
  simp only [cond_true, Bool.true_and, m57_eq]
  cases decide (m88 a > 0) <;> rfl
theorem amt_alike {a : V} (h : IsF a) (hp : (m72 (V.clean a)).2 = true) : alike (amt a) (m72 (V.clean a)).1 ∧ ok (m72 (V.clean a)).1 = true := by
 obtain ⟨h1, h2⟩ := amount_same h
 rw [h1] at hp
 exact ⟨(h2 hp).2.1, (h2 hp).2.2⟩
theorem same_dep {L : List V} (hb : Rb L) {a0 a1 : V} {m : ByteArray} (h : (m.toList == (ByteArray.mk #[100, 101, 112, 111, 115, 105, 116]).toList) = true) (h0 : IsN a0) (h1 : IsF a1) : ansO (doB L m [a0, a1]) = m39 (mkL L) m (V.cleans [a0, a1]) := by
 have d2 := str_ne h (y := (ByteArray.mk #[116, 114, 97, 110, 115, 102, 101, 114]).toList) (by simp [ByteArray.toList_eq])
 have d5 := str_ne h (y := (ByteArray.mk #[111, 112, 101, 110]).toList) (by simp [ByteArray.toList_eq])
 have d6 := str_ne h (y := (ByteArray.mk #[99, 108, 111, 115, 101]).toList) (by simp [ByteArray.toList_eq])
 obtain ⟨i, hp, e1, e2⟩ := seek hb a0
 have hc : (V.cleans [a0, a1])[0]?.getD default = mkS a0.s := by rw [← clean_name h0.k]; rfl
 have hc1 : (V.cleans [a0, a1])[1]?.getD default = V.clean a1 := rfl
 have hs : (mkS a0.s).s = a0.s := rfl
 unfold doB m39
 simp only [h, d2, d5, d6, hc, hc1, hs, e2, cond_true, cond_false, List.getElem?_cons_zero, List.getElem?_cons_succ, Option.getD_some, m56_eq e1, m59_eq h1]
 have hal := amt_alike h1
 generalize m72 (V.clean a1) = p at *
 obtain ⟨x, b⟩ := p
 cases b with
 | false => rfl
 | true =>
  obtain ⟨⟨hadd, hsub, hfo, _⟩, hok⟩ := hal rfl
  simp only [cond_true] at *
  cases hf : found L a0.s.toList i with
  | false => rfl
  | true =>
   obtain ⟨hi, f, hg, ha⟩ := got hb hf
   simp only [cond_true, Int.toNat_natCast]
   have hg2 : ((mkL L).l[i]?.getD default) = mkA a0.s f := getD_of hg
   have hm60 : m60 ⟨L⟩ ((i : Nat) : Int) (mkN (amt a1)) = bif isNum (fa FloatKind.f64.format.add f x) then .ret (mkN (canon (fa FloatKind.f64.format.add f x))) else .pan (er 35) := by
    unfold m60
    simp only [Int.toNat_natCast]
    rw [getD_of hg]
    show (match m57 (m75 ((m89 (mkN f) (mkN (amt a1))).1)) 35 with | .pan q1 => .pan q1 | .ret q1 => .ret ((m89 (mkN f) (mkN (amt a1))).1) : Ou V) = _
    rw [m89_num, hadd, m75_mk, num_canon, m57_eq]
    cases isNum (fa FloatKind.f64.format.add f x) <;> rfl
   simp only [hm60, hg2]
   show _ = (bif m73 (m20 (fa FloatKind.f64.format.add f x)) then (m70 (mkL L) ((i : Nat) : Int) true a0.s (m20 (fa FloatKind.f64.format.add f x)), m20 (fa FloatKind.f64.format.add f x), 0) else _)
   rw [m20_eq, m73_mk, num_canon, m70_set hi (by have := hb.len; omega)]
   cases isNum (fa FloatKind.f64.format.add f x) with
   | false => rfl
   | true =>
    simp only [cond_true, getD_of hg]
    rfl
theorem same_mov {L : List V} (hb : Rb L) {a0 a1 a2 : V} {m : ByteArray} (h : (m.toList == (ByteArray.mk #[116, 114, 97, 110, 115, 102, 101, 114]).toList) = true) (h0 : IsN a0) (h1 : IsN a1) (h2 : IsF a2) : ansO (doB L m [a0, a1, a2]) = m39 (mkL L) m (V.cleans [a0, a1, a2]) := by
 have d2 := str_ne h (y := (ByteArray.mk #[100, 101, 112, 111, 115, 105, 116]).toList) (by simp [ByteArray.toList_eq])
 have d5 := str_ne h (y := (ByteArray.mk #[111, 112, 101, 110]).toList) (by simp [ByteArray.toList_eq])
 have d6 := str_ne h (y := (ByteArray.mk #[99, 108, 111, 115, 101]).toList) (by simp [ByteArray.toList_eq])
 obtain ⟨i, hp, e1, e2⟩ := seek hb a0
 obtain ⟨k, hp', e1', e2'⟩ := seek hb a1
 have hc : (V.cleans [a0, a1, a2])[0]?.getD default = mkS a0.s := by rw [← clean_name h0.k]; rfl
 have hc1 : (V.cleans [a0, a1, a2])[1]?.getD default = mkS a1.s := by rw [← clean_name h1.k]; rfl
 have hc2 : (V.cleans [a0, a1, a2])[2]?.getD default = V.clean a2 := rfl
 have hs : ∀ s, (mkS s).s = s := fun _ => rfl
 unfold doB movB m39
 simp only [h, d2, d5, d6, hc, hc1, hc2, hs, e2, e2', cond_true, cond_false, List.getElem?_cons_zero, List.getElem?_cons_succ, Option.getD_some, m56_eq e1, m56_eq e1', m59_eq h2]
 have hal := amt_alike h2
 generalize m72 (V.clean a2) = p at *
 obtain ⟨x, b⟩ := p
 cases b with
 | false => rfl
 | true =>
  obtain ⟨⟨hadd, hsub, hfo, haok⟩, hok⟩ := hal rfl
  simp only [cond_true] at *
  cases hf : found L a0.s.toList i with
  | false => rfl
  | true =>
   simp only [cond_true]
   cases hf' : found L a1.s.toList k with
   | false => rfl
   | true =>
    obtain ⟨hi, f, hg, ha⟩ := got hb hf
    obtain ⟨hk, f', hg', ha'⟩ := got hb hf'
    simp only [cond_true, Int.toNat_natCast]
    have hg2 : ((mkL L).l[i]?.getD default) = mkA a0.s f := getD_of hg
    have hg2' : ((mkL L).l[k]?.getD default) = mkA a1.s f' := getD_of hg'
    have hm60 : m60 ⟨L⟩ ((k : Nat) : Int) (mkN (amt a2)) = bif isNum (fa FloatKind.f64.format.add f' x) then .ret (mkN (canon (fa FloatKind.f64.format.add f' x))) else .pan (er 35) := by
     unfold m60
     simp only [Int.toNat_natCast]
     rw [getD_of hg']
     show (match m57 (m75 ((m89 (mkN f') (mkN (amt a2))).1)) 35 with | .pan q1 => .pan q1 | .ret q1 => .ret ((m89 (mkN f') (mkN (amt a2))).1) : Ou V) = _
     rw [m89_num, hadd, m75_mk, num_canon, m57_eq]
     cases isNum (fa FloatKind.f64.format.add f' x) <;> rfl
    have hl1 : ∀ (n : ByteArray) (f : Option Nat), ((mkA n f).l[1]?.getD default) = mkN f := fun _ _ => rfl
    have hf1 : ∀ f, (mkN f).f = f := fun _ => rfl
    have hge : (fo f (amt a2) == some .gt || fo f (amt a2) == some .eq) = !(fo f x == some .lt) := by
     rw [ge_lt (ok_num ha.num) (by rw [haok]; exact hok), hfo]
    simp only [hm60, hg2, hg2', getD_of hg, getD_of hg', hl1, hf1, hge, m57_eq, m90_num, hsub, m20_eq, m73_mk, num_canon]
    cases (fo f x == some .lt) with
    | true => rfl
    | false =>
     simp only [Bool.not_false, cond_true, cond_false]
     have hik : (((i : Nat) : Int) == ((k : Nat) : Int)) = (a0.s.toList == a1.s.toList) := by
      rw [Bool.eq_iff_iff, beq_iff_eq, beq_iff_eq]
      constructor
      ·intro e
       have e : i = k := by omega
       subst e
       rw [hg] at hg'
       simp only [Option.some.injEq, mkA, mkL, mkS, V.mk.injEq, List.cons.injEq] at hg'
       rw [hg'.2.2.2.2.1.2.2.2.1]
      ·intro e
       rw [e] at hp
       rw [hp.uniq hp']
     rw [hik]
     cases hq : (a0.s.toList == a1.s.toList) with
     | true =>
      show (mkL L, mkN f, (0 : Int)) = (mkL L, mkN (canon f), 0)
      rw [num_ok ha.num]
     | false =>
      have hne : i ≠ k := fun e => by
       rw [e, hq] at hik; simp at hik
      simp only [cond_false]
      rw [m70_set hi (by have := hb.len; omega), m70_set (by rw [List.length_set]; exact hk) (by rw [List.length_set]; have := hb.len; omega), List.set_comm _ _ hne]
      cases isNum (fa FloatKind.f64.format.add f' x) with
      | false => rfl
      | true => rfl
theorem same_ans {L : List V} (hb : Rb L) {m : ByteArray} {a : List V} (h : Ask m a) : ansO (doB L m a) = m39 (mkL L) m (V.cleans a) := by
 cases h with
 | bal a0 h h0 => exact same_bal hb h h0
 | clo a0 h h0 => exact same_clo hb h h0
 | dep a0 a1 h h0 h1 => exact same_dep hb h h0 h1
 | nam h => exact same_nam h
 | opn a0 h h0 => exact same_opn hb h h0
 | tot h => exact same_tot hb h
 | mov a0 a1 a2 h h0 h1 h2 => exact same_mov hb h h0 h1 h2
theorem do_same (s : V) (m : ByteArray) (a : List V) : m12 s m a = m13 LG s m a := by
 unfold m12 m13
 rw [← right_same s LG, ← check_same m a]
 cases h1 : m15 s with
 | false => rfl
 | true =>
  simp only [Bool.not_true, cond_false, cond_true]
  cases h2 : (m25 LG m a != (0 : Int)) with
  | true => rfl
  | false =>
   simp only [cond_false]
   obtain ⟨e, hb⟩ := right_bk h1
   have hs := same_ans hb (ask_of (bne0 h2))
   rw [e, ← hs]
   show ansO (doB (V.clean s).l m a) = _
   cases doB (V.clean s).l m a with
   | ret q => rfl
   | pan v =>
    show (V.zero, V.zero, errOf v) = bif (errOf v != 0) then (V.zero, V.zero, errOf v) else (V.zero, V.zero, 0)
    cases h3 : (errOf v != 0) with
    | true => rfl
    | false => rw [bne0 h3]; rfl
theorem p39_of {s : V} {m : ByteArray} {a : List V} (h1 : m17 LG s = true) (h2 : m32 LG m a = 0) : P39 (V.clean s) m (V.cleans a) := by
 rw [← right_same s LG] at h1
 rw [← check_same m a] at h2
 obtain ⟨e, hb⟩ := right_bk h1
 have ha := ask_of h2
 rw [cleans_map]
 refine ⟨?_, ?_, ?_, ?_, ?_, ?_⟩
 ·cases ha <;> simp only [*, true_or, or_true]
 ·intro x hx
  obtain ⟨n, f, rfl, _⟩ := hb.rows x hx
  exact Nat.lt_succ_self 1
 ·have := hb.len; omega
 ·intro h
  cases ha with
  | bal a0 h' h0 => exact absurd h (by rw [str_ne h' (by simp [ByteArray.toList_eq])]; decide)
  | clo a0 h' h0 => exact absurd h (by rw [str_ne h' (by simp [ByteArray.toList_eq])]; decide)
  | dep a0 a1 h' h0 h1 => exact Nat.lt_succ_self 1
  | nam h' => exact absurd h (by rw [str_ne h' (by simp [ByteArray.toList_eq])]; decide)
  | opn a0 h' h0 => exact absurd h (by rw [str_ne h' (by simp [ByteArray.toList_eq])]; decide)
  | tot h' => exact absurd h (by rw [str_ne h' (by simp [ByteArray.toList_eq])]; decide)
  | mov a0 a1 a2 h' h0 h1 h2 => exact absurd h (by rw [str_ne h' (by simp [ByteArray.toList_eq])]; decide)
 ·intro h
  cases ha with
  | bal a0 h' h0 => exact absurd h (by rw [str_ne h' (by simp [ByteArray.toList_eq])]; decide)
  | clo a0 h' h0 => exact absurd h (by rw [str_ne h' (by simp [ByteArray.toList_eq])]; decide)
  | dep a0 a1 h' h0 h1 => exact absurd h (by rw [str_ne h' (by simp [ByteArray.toList_eq])]; decide)
  | nam h' => exact absurd h (by rw [str_ne h' (by simp [ByteArray.toList_eq])]; decide)
  | opn a0 h' h0 => exact absurd h (by rw [str_ne h' (by simp [ByteArray.toList_eq])]; decide)
  | tot h' => exact absurd h (by rw [str_ne h' (by simp [ByteArray.toList_eq])]; decide)
  | mov a0 a1 a2 h' h0 h1 h2 => exact Nat.lt_succ_self 2
 ·intro h h9
  cases ha with
  | bal a0 h' h0 => exact Nat.lt_succ_self 0
  | clo a0 h' h0 => exact Nat.lt_succ_self 0
  | dep a0 a1 h' h0 h1 => exact Nat.zero_lt_succ _
  | nam h' => rw [h'] at h; cases h
  | opn a0 h' h0 => exact Nat.lt_succ_self 0
  | tot h' => rw [h'] at h9; cases h9
  | mov a0 a1 a2 h' h0 h1 h2 => exact Nat.zero_lt_succ _
theorem lgh : ((ByteArray.mk #[108, 101, 100, 103, 101, 114]).toList == (ByteArray.mk #[108, 101, 100, 103, 101, 114]).toList) = true := beq_self_eq_true _
end Go.Bm
