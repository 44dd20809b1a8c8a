import Derived.Test.YthgocpanlbmalaaGreatBmF
import Derived.Laws.IdiomCopy
import Derived.Test.YthgocpanlbmalaaGreatProg
set_option linter.unusedVariables false
set_option linter.unusedSimpArgs false
/- What is owned, committed: wholly, in parts. -/
namespace Go.Bm
open Go.RowKit (Below)
abbrev noB : Nat → Option M := fun _ => none
theorem OwN.com {D S : Dm} {w : World} {m : M} {t : T} (hD : D.le S) (h : Vt noB m t) : ∀ {v : Value} {F : Foot}, OwN D w m v F → (∀ b, F b → ∀ j, S b j = w.cell? ⟨b, j, none⟩) → RepT S v t := by
 have leaf : ∀ {m : M} {x : T}, closeT m = some x → ∀ {v F}, OwN D w m v F → RepT S v x := fun {m x} hx v F ho => by
  cases ho with
  | leaf _ _ _ h _ => exact (closeT_rep h hx).mono hD
  | _ => simp [closeT] at hx
 induction h with
 | t x => intro v F ho _; exact leaf rfl ho
 | tight xs => intro v F ho _; exact leaf rfl ho
 | own id z xs => intro v F ho _; exact leaf rfl ho
 | op z xs =>
  intro v F ho _
  cases ho with
  | leaf _ _ _ h _ => cases h
  | op _ _ _ _ h _ => exact h.mono hD
 | sb k z lo n hs xs ts hk => cases hk
 | oa hs z xs ts hl hr h ih =>
  intro v F ho hF
  cases ho with
  | leaf _ _ _ h _ => cases h
  | oa0 _ _ _ =>
   have : ts = [] := List.eq_nil_of_length_eq_zero (by simpa using hl.symm)
   subst this; exact .nil
  | oae a q _ _ _ =>
   have : ts = [] := List.eq_nil_of_length_eq_zero (by simpa using hl.symm)
   subst this
   exact .sl a q 0 0 z [] (fun _ _ => undef) rfl ⟨Nat.le_refl _, Nat.zero_le _⟩ (fun i cs h => by simp at h) (fun i j h => by omega) (fun i j cs c h => by simp at h)
  | oa b o c _ cur ty _ A _ hb hd hs h1c h0 hc hz hA hdis hFi h' =>
   have hx : ∀ (i : Nat) (rs : List T), ts[i]? = some rs → ∃ cs, xs[i]? = some cs := fun i rs hi => by
    have := (List.getElem?_eq_some_iff.1 hi).1
    exact ⟨_, List.getElem?_eq_getElem (by omega)⟩
   have hcell : ∀ j, S b j = cur[j]? := fun j => by rw [hF b ((hFi b).2 (.inl rfl)) j, cell_of_heap hb]
   have hin : RowsIn S b o z c ts := by
    refine ⟨fun i rs hi => ?_, by omega, by omega, fun i j rs r hi hj => ?_⟩
    ·obtain ⟨cs, hcs⟩ := hx i rs hi
     rw [← hr i cs rs hcs hi]; exact hz i cs hcs
    ·obtain ⟨cs, hcs⟩ := hx i rs hi
     have hjl : j < cs.length := by rw [hr i cs rs hcs hi]; exact (List.getElem?_eq_some_iff.1 hj).1
     have hil : i < xs.length := (List.getElem?_eq_some_iff.1 hcs).1
     have hlt : o + (i * z + j) < cur.size := by
      have : (i + 1) * z ≤ c * z := Nat.mul_le_mul_right z (by omega)
      have := hz i cs hcs
      rw [Nat.add_mul] at *; omega
     refine ⟨cur[o + (i * z + j)], by rw [hcell, Array.getElem?_eq_getElem hlt], ?_⟩
     exact ih i j cs rs _ r hcs hi (List.getElem?_eq_getElem hjl) hj (h' i j cs _ _ hcs (List.getElem?_eq_getElem hjl) (Array.getElem?_eq_getElem hlt)) fun q hq => hF q ((hFi q).2 (.inr ⟨i, j, hq⟩))
   have := hin.rep 0 xs.length (by omega)
   simpa [hl] using this
inductive Soft : M → M → Prop
 | same (m : M) : Soft m m
 | com (m : M) (t : T) (ho : isOwned m = true) (h : Vt noB m t) : Soft m (.t t)
 | cl (m : M) (x : T) (h : closeT m = some x) : Soft m (.t x)
 | oa (z : Nat) (xs ys : List (List M)) (hl : xs.length = ys.length) (hr : ∀ (i : Nat) (cs ds : List M), xs[i]? = some cs → ys[i]? = some ds → cs.length = ds.length)
   (h : ∀ (i j : Nat) (cs ds : List M) (c d : M), xs[i]? = some cs → ys[i]? = some ds → cs[j]? = some c → ds[j]? = some d → Soft c d) : Soft (.oa [] z xs) (.oa [] z ys)
 | agg (cs ds : List M) (hl : cs.length = ds.length) (h : ∀ (j : Nat) (c d : M), cs[j]? = some c → ds[j]? = some d → Soft c d) : Soft (.agg cs) (.agg ds)
 | tup (cs ds : List M) (hl : cs.length = ds.length) (h : ∀ (j : Nat) (c d : M), cs[j]? = some c → ds[j]? = some d → Soft c d) : Soft (.tup cs) (.tup ds)
structure Parts (D : Dm) (w : World) (F : Foot) (q : Foot × Foot) (R : Dm → Foot → Prop) : Prop where
 a : ∀ x, q.1 x → F x
 b : ∀ x, q.2 x → F x
 ab : ∀ x, q.1 x → ¬ q.2 x
 rep : ∀ S : Dm, D.le S → (∀ x, q.1 x → ∀ j, S x j = w.cell? ⟨x, j, none⟩) → (∀ x, q.2 x → ∀ j, S x j = D x j) → R S q.2
theorem OwN.soft {D : Dm} {w : World} {m m' : M} (h : Soft m m') : ∀ {v : Value} {F : Foot}, OwN D w m v F → (∀ cs, m ≠ .agg cs) → (∀ cs, m ≠ .tup cs) → ∃ q, Parts D w F q fun S G => OwN S w m' v G := by
 induction h with
 | same m => exact fun {v F} ho _ _ => ⟨(fun _ => False, F), fun x h => h.elim, fun x h => h, fun x h => h.elim, fun S hS _ h2 => ho.keep hS fun x hx => ⟨rfl, h2 x hx⟩⟩
 | com m t ho' h => exact fun {v F} ho _ _ => ⟨(F, fun _ => False), fun x h => h, fun x h => h.elim, fun x _ h => h, fun S hS h1 _ => .leaf _ _ _ (.t _ _ (OwN.com hS h ho h1)) (fun _ h => h)⟩
 | cl m x h =>
  intro v F ho _ _
  cases ho with
  | leaf _ _ _ hm hF => exact ⟨(fun _ => False, fun _ => False), fun x h => h.elim, fun x h => h.elim, fun x h => h.elim, fun S hS _ _ => .leaf _ _ _ (.t _ _ ((closeT_rep hm h).mono hS)) fun _ h => h⟩
  | _ => simp [closeT] at h
 | agg cs ds hl h ih => exact fun {v F} _ h1 _ => (h1 cs rfl).elim
 | tup cs ds hl h ih => exact fun {v F} _ _ h2 => (h2 cs rfl).elim
 | oa z xs ys hl hr h ih =>
  intro v F ho _ _
  cases ho with
  | leaf _ _ _ h _ => cases h
  | oa0 _ _ hF =>
   have : ys = [] := List.eq_nil_of_length_eq_zero (by simpa using hl.symm)
   subst this
   exact ⟨(fun _ => False, fun _ => False), fun x h => h.elim, fun x h => h.elim, fun x h => h.elim, fun S _ _ _ => .oa0 z _ fun _ h => h⟩
  | oae a q _ _ _ =>
   have : ys = [] := List.eq_nil_of_length_eq_zero (by simpa using hl.symm)
   subst this
   exact ⟨(fun _ => False, fun _ => False), fun x h => h.elim, fun x h => h.elim, fun x h => h.elim, fun S _ _ _ => .oae a q z _ fun _ h => h⟩
  | oa b o c _ cur ty _ A _ hb hd hs h1c h0 hc hz hA hdis hF h' =>
   have hex : ∀ p : Nat × Nat, ∃ q : Foot × Foot, Parts D w (A p.1 p.2) q fun S G => ∀ (cs ds : List M) (c d : M) (v : Value), xs[p.1]? = some cs → ys[p.1]? = some ds → cs[p.2]? = some c → ds[p.2]? = some d → cur[o + (p.1 * z + p.2)]? = some v → OwN S w d v G := by
    rintro ⟨i, j⟩
    by_cases hex : ∃ cs ds c d v, xs[i]? = some cs ∧ ys[i]? = some ds ∧ cs[j]? = some c ∧ ds[j]? = some d ∧ cur[o + (i * z + j)]? = some v
    ·obtain ⟨cs, ds, c, d, v, e1, e2, e3, e4, e5⟩ := hex
     have hown := h' i j cs c v e1 e3 e5
     have hcell : (∀ cs, c ≠ .agg cs) ∧ ∀ cs, c ≠ .tup cs := by
      have h1 : v.oneCell' = true := h1c v (by
       obtain ⟨hlt, hv⟩ := Array.getElem?_eq_some_iff.1 e5
       exact hv ▸ Array.getElem_mem_toList hlt)
      refine ⟨fun cs' e => ?_, fun cs' e => ?_⟩
      ·subst e
       cases hown with
       | leaf _ _ _ hm _ => obtain ⟨vs, rfl, _⟩ := hm.agg_inv; simp [Value.oneCell'] at h1
      ·subst e
       cases hown with
       | leaf _ _ _ hm _ => obtain ⟨vs, rfl, _⟩ := hm.tup_inv; simp [Value.oneCell'] at h1
     obtain ⟨q, hq⟩ := ih i j cs ds c d e1 e2 e3 e4 hown hcell.1 hcell.2
     refine ⟨q, hq.a, hq.b, hq.ab, fun S h1 h2 h3 cs' ds' c' d' v' f1 f2 f3 f4 f5 => ?_⟩
     rw [e1] at f1; cases f1
     rw [e2] at f2; cases f2
     rw [e4] at f4; cases f4
     rw [e5] at f5; cases f5
     exact hq.rep S h1 h2 h3
    ·exact ⟨(fun _ => False, fun _ => False), fun x h => h.elim, fun x h => h.elim, fun x h => h.elim, fun S _ _ _ cs ds c d v e1 e2 e3 e4 e5 => (hex ⟨cs, ds, c, d, v, e1, e2, e3, e4, e5⟩).elim⟩
   obtain ⟨f, hf⟩ := Classical.axiomOfChoice hex
   refine ⟨(fun x => ∃ i j, (f (i, j)).1 x, fun x => x = b ∨ ∃ i j, (f (i, j)).2 x), fun x ⟨i, j, hx⟩ => (hF x).2 (.inr ⟨i, j, (hf (i, j)).a x hx⟩), fun x hx => ?_, fun x ⟨i, j, hx⟩ hx2 => ?_, fun S hS h1 h2 => ?_⟩
   ·rcases hx with rfl | ⟨i, j, hx⟩
    ·exact (hF x).2 (.inl rfl)
    ·exact (hF x).2 (.inr ⟨i, j, (hf (i, j)).b x hx⟩)
   ·have hxA := (hf (i, j)).a x hx
    rcases hx2 with rfl | ⟨i', j', hx2⟩
    ·exact (hA i j x hxA).2 rfl
    ·obtain ⟨rfl, rfl⟩ := hdis i j i' j' x hxA ((hf (i', j')).b x hx2)
     exact (hf (i, j)).ab x hx hx2
   ·have hlen : xs.length = ys.length := hl
    rw [hlen] at hc ⊢
    refine .oa b o c z cur ty ys (fun i j => (f (i, j)).2) _ hb (fun j => by rw [h2 b (.inl rfl) j]; exact hd j) hs h1c h0 hc (fun i ds hi => ?_) (fun i j x hx => ?_) (fun i j i' j' x hx hx' => hdis i j i' j' x ((hf (i, j)).b x hx) ((hf (i', j')).b x hx')) (fun x => Iff.rfl) (fun i j ds d v e2 e4 e5 => ?_)
    ·have hi' := List.getElem?_eq_getElem (l := xs) (i := i) (by rw [hlen]; exact (List.getElem?_eq_some_iff.1 hi).1)
     rw [← hr i _ ds hi' hi]; exact hz i _ hi'
    ·have := hA i j x ((hf (i, j)).b x hx)
     exact ⟨⟨by rw [← hlen]; exact this.1.1, this.1.2⟩, this.2⟩
    ·have e1 := List.getElem?_eq_getElem (l := xs) (i := i) (by rw [hlen]; exact (List.getElem?_eq_some_iff.1 e2).1)
     have e3 := List.getElem?_eq_getElem (l := xs[i]'(by rw [hlen]; exact (List.getElem?_eq_some_iff.1 e2).1)) (i := j) (by rw [hr i _ ds e1 e2]; exact (List.getElem?_eq_some_iff.1 e4).1)
     exact (hf (i, j)).rep S hS (fun x hx => h1 x ⟨i, j, hx⟩) (fun x hx => h2 x (.inr ⟨i, j, hx⟩)) _ ds _ d v e1 e2 e3 e4 e5
theorem RepR.keepD {g : Gh} {w : World} {r : M} {v : Value} {F : Foot} {S : Dm} (h : RepR g w r v F) : g.D.le S → (∀ x, F x → ∀ j, S x j = g.D x j) → RepR ⟨S, g.β, g.φ⟩ w r v F := by
 induction h with
 | leaf m v F h hF => exact fun hS _ => .leaf m v F (h.turn (g := g) (g' := ⟨S, g.β, g.φ⟩) hS fun _ _ _ h => h) hF
 | own m v F ho h => exact fun hS h2 => .own m v F ho (h.keep hS fun x hx => ⟨rfl, h2 x hx⟩)
 | agg vs cs A F hl hA hdis hF h ih => exact fun hS h2 => .agg vs cs A F hl hA hdis hF fun j v c hv hc => ih j v c hv hc hS fun x hx => h2 x ((hF x).2 ⟨j, hx⟩)
 | tup vs cs A F hl hA hdis hF h ih => exact fun hS h2 => .tup vs cs A F hl hA hdis hF fun j v c hv hc => ih j v c hv hc hS fun x hx => h2 x ((hF x).2 ⟨j, hx⟩)
theorem RepR.soft {g : Gh} {w : World} {r r' : M} (h : Soft r r') : ∀ {v : Value} {F : Foot}, RepR g w r v F → ∃ q, Parts g.D w F q fun S G => RepR ⟨S, g.β, g.φ⟩ w r' v G := by
 have leaf : ∀ {m : M} {v : Value} {F : Foot}, RepM g v m → ∃ q, Parts g.D w F q fun S G => RepR ⟨S, g.β, g.φ⟩ w m v G := fun {m v F} hm =>
  ⟨(fun _ => False, fun _ => False), fun x h => h.elim, fun x h => h.elim, fun x h => h.elim, fun S hS _ _ => .leaf _ _ _ (hm.turn (g := g) (g' := ⟨S, g.β, g.φ⟩) hS fun _ _ _ h => h) fun _ h => h⟩
 have owned : ∀ {m m' : M} {v : Value} {F : Foot}, isOwned m = true → Soft m m' → OwN g.D w m v F → ∃ q, Parts g.D w F q fun S G => RepR ⟨S, g.β, g.φ⟩ w m' v G := fun {m m' v F} ho hs hown => by
  obtain ⟨q, hq⟩ := OwN.soft hs hown (fun cs e => by subst e; simp [isOwned] at ho) (fun cs e => by subst e; simp [isOwned] at ho)
  refine ⟨q, hq.a, hq.b, hq.ab, fun S h1 h2 h3 => ?_⟩
  have := hq.rep S h1 h2 h3
  by_cases ho' : isOwned m' = true
  ·exact .own _ _ _ ho' this
  ·cases this with
   | leaf _ _ _ hm hF => exact .leaf _ _ _ (hm.of_le (g := ⟨S, g.β, g.φ⟩) (Dm.le_refl _)) hF
   | _ => simp [isOwned] at ho'
 have pieces : ∀ {cs ds : List M} {vs : List Value} {A : Nat → Foot} {F : Foot}, cs.length = ds.length → (∀ j x, A j x → j < cs.length) → (∀ i j x, A i x → A j x → i = j) → (∀ x, F x ↔ ∃ j, A j x) → vs.length = cs.length →
   (∀ (j : Nat) (c d : M) (v : Value), cs[j]? = some c → ds[j]? = some d → vs[j]? = some v → ∃ q, Parts g.D w (A j) q fun S G => RepR ⟨S, g.β, g.φ⟩ w d v G) →
   ∃ q, Parts g.D w F q fun S G => ∃ A' : Nat → Foot, (∀ j x, A' j x → j < ds.length) ∧ (∀ i j x, A' i x → A' j x → i = j) ∧ (∀ x, G x ↔ ∃ j, A' j x) ∧ ∀ (j : Nat) (v : Value) (d : M), vs[j]? = some v → ds[j]? = some d → RepR ⟨S, g.β, g.φ⟩ w d v (A' j) := by
  intro cs ds vs A F hl hA hdis hF hvl hp
  have hex : ∀ j : Nat, ∃ q : Foot × Foot, Parts g.D w (A j) q fun S G => ∀ (v : Value) (d : M), vs[j]? = some v → ds[j]? = some d → RepR ⟨S, g.β, g.φ⟩ w d v G := by
   intro j
   by_cases hj : j < cs.length
   ·obtain ⟨q, hq⟩ := hp j _ _ _ (List.getElem?_eq_getElem hj) (List.getElem?_eq_getElem (l := ds) (by omega)) (List.getElem?_eq_getElem (l := vs) (by omega))
    refine ⟨q, hq.a, hq.b, hq.ab, fun S h1 h2 h3 v d hv hd => ?_⟩
    rw [List.getElem?_eq_getElem (by omega)] at hv hd
    cases hv; cases hd
    exact hq.rep S h1 h2 h3
   ·refine ⟨(fun _ => False, fun _ => False), fun x h => h.elim, fun x h => h.elim, fun x h => h.elim, fun S _ _ _ v d hv _ => ?_⟩
    have := (List.getElem?_eq_some_iff.1 hv).1
    omega
  obtain ⟨f, hf⟩ := Classical.axiomOfChoice hex
  refine ⟨(fun x => ∃ j, (f j).1 x, fun x => ∃ j, (f j).2 x), fun x ⟨j, hx⟩ => (hF x).2 ⟨j, (hf j).a x hx⟩, fun x ⟨j, hx⟩ => (hF x).2 ⟨j, (hf j).b x hx⟩, fun x ⟨j, hx⟩ ⟨i, hi⟩ => ?_, fun S h1 h2 h3 => ?_⟩
  ·have := hdis j i x ((hf j).a x hx) ((hf i).b x hi)
   subst this
   exact (hf j).ab x hx hi
  ·exact ⟨fun j => (f j).2, fun j x hx => by have := hA j x ((hf j).b x hx); omega, fun i j x hx hx' => hdis i j x ((hf i).b x hx) ((hf j).b x hx'), fun x => Iff.rfl, fun j v d hv hd =>
    (hf j).rep S h1 (fun x hx => h2 x ⟨j, hx⟩) (fun x hx => h3 x ⟨j, hx⟩) v d hv hd⟩
 induction h with
 | same m =>
  intro v F hr
  exact ⟨(fun _ => False, F), fun x h => h.elim, fun x h => h, fun x h => h.elim, fun S hS _ h3 => hr.keepD hS h3⟩
 | com m t ho h =>
  intro v F hr
  cases hr with
  | leaf _ _ _ h _ => cases h <;> simp [isOwned] at ho
  | own _ _ _ _ hown => exact owned ho (.com m t ho h) hown
  | agg => simp [isOwned] at ho
  | tup => simp [isOwned] at ho
 | cl m x h =>
  intro v F hr
  cases hr with
  | leaf _ _ _ hm _ => exact ⟨(fun _ => False, fun _ => False), fun x h => h.elim, fun x h => h.elim, fun x h => h.elim, fun S hS _ _ => .leaf _ _ _ (.t _ _ ((closeT_rep hm h).mono hS)) fun _ h => h⟩
  | own _ _ _ ho _ => cases m <;> simp [closeT, isOwned] at h ho
  | agg => simp [closeT] at h
  | tup => simp [closeT] at h
 | oa z xs ys hl hr' h ih =>
  intro v F hr
  cases hr with
  | leaf _ _ _ h _ => cases h
  | own _ _ _ ho hown => exact owned ho (.oa z xs ys hl hr' h) hown
 | agg cs ds hl h ih =>
  intro v F hr
  have key : ∀ {vs : List Value} {A : Nat → Foot} {F : Foot}, vs.length = cs.length → (∀ j x, A j x → j < cs.length) → (∀ i j x, A i x → A j x → i = j) → (∀ x, F x ↔ ∃ j, A j x) → (∀ (j : Nat) (v : Value) (c : M), vs[j]? = some v → cs[j]? = some c → RepR g w c v (A j)) →
    ∃ q, Parts g.D w F q fun S G => RepR ⟨S, g.β, g.φ⟩ w (.agg ds) (.agg vs.toArray) G := fun {vs A F} hvl hA hdis hF hr => by
   obtain ⟨q, hq⟩ := pieces hl hA hdis hF hvl fun j c d v h1 h2 h3 => ih j c d h1 h2 (hr j v c h3 h1)
   refine ⟨q, hq.a, hq.b, hq.ab, fun S h1 h2 h3 => ?_⟩
   obtain ⟨A', a1, a2, a3, a4⟩ := hq.rep S h1 h2 h3
   exact .agg vs ds A' _ (hvl.trans hl) a1 a2 a3 a4
  cases hr with
  | leaf _ _ _ hm hF =>
   obtain ⟨vs, rfl, hvs⟩ := hm.agg_inv
   exact key (A := fun _ _ => False) hvs.1 (fun j x h => h.elim) (fun i j x h => h.elim) (fun x => ⟨fun h => (hF x h).elim, fun ⟨j, h⟩ => h.elim⟩) (fun j v c hv hc => .leaf _ _ _ (hvs.2 j v c hv hc) fun _ h => h)
  | own _ _ _ ho _ => simp [isOwned] at ho
  | agg vs _ A _ hvl hA hdis hF hr => exact key hvl hA hdis hF hr
 | tup cs ds hl h ih =>
  intro v F hr
  have key : ∀ {vs : List Value} {A : Nat → Foot} {F : Foot}, vs.length = cs.length → (∀ j x, A j x → j < cs.length) → (∀ i j x, A i x → A j x → i = j) → (∀ x, F x ↔ ∃ j, A j x) → (∀ (j : Nat) (v : Value) (c : M), vs[j]? = some v → cs[j]? = some c → RepR g w c v (A j)) →
    ∃ q, Parts g.D w F q fun S G => RepR ⟨S, g.β, g.φ⟩ w (.tup ds) (.tuple vs.toArray) G := fun {vs A F} hvl hA hdis hF hr => by
   obtain ⟨q, hq⟩ := pieces hl hA hdis hF hvl fun j c d v h1 h2 h3 => ih j c d h1 h2 (hr j v c h3 h1)
   refine ⟨q, hq.a, hq.b, hq.ab, fun S h1 h2 h3 => ?_⟩
   obtain ⟨A', a1, a2, a3, a4⟩ := hq.rep S h1 h2 h3
   exact .tup vs ds A' _ (hvl.trans hl) a1 a2 a3 a4
  cases hr with
  | leaf _ _ _ hm hF =>
   obtain ⟨vs, rfl, hvs⟩ := hm.tup_inv
   exact key (A := fun _ _ => False) hvs.1 (fun j x h => h.elim) (fun i j x h => h.elim) (fun x => ⟨fun h => (hF x h).elim, fun ⟨j, h⟩ => h.elim⟩) (fun j v c hv hc => .leaf _ _ _ (hvs.2 j v c hv hc) fun _ h => h)
  | own _ _ _ ho _ => simp [isOwned] at ho
  | tup vs _ A _ hvl hA hdis hF hr => exact key hvl hA hdis hF hr
theorem Came.soft {g : Gh} {w : World} {ls : List M} {bs : List Bk} {r r' : M} {e : Ending} {w' : World} (hs : Soft r r') (h : Came g w ls bs (.ret r) e w') : Came g w ls bs (.ret r') e w' := by
  obtain ⟨g', hg, v, F, rfl, hr, hF, hap⟩ := h
  obtain ⟨q, hq⟩ := hr.soft hs
  let S : Dm := fun b j => open Classical in if q.1 b then w'.cell? ⟨b, j, none⟩ else g'.D b j
  have hS1 : ∀ x, q.1 x → ∀ j, S x j = w'.cell? ⟨x, j, none⟩ := fun x hx j => by simp [S, hx]
  have hS2 : ∀ x, ¬ q.1 x → ∀ j, S x j = g'.D x j := fun x hx j => by simp [S, hx]
  have hle : g'.D.le S := fun b j u hu => by
    by_cases hb : q.1 b
    · rw [hS1 b hb]; exact hg.inW b j u hu
    · rw [hS2 b hb]; exact hu
  have hrep := hq.rep S hle hS1 (fun x hx => hS2 x fun h1 => hq.ab x h1 hx)
  refine ⟨⟨S, g'.β, g'.φ⟩, ?_, v, q.2, rfl, hrep, fun b hb => hF b (hq.b b hb), fun i m b hm hi hb => hap i m b hm hi (hq.b b hb)⟩
  exact { D := Dm.le_trans hg.D hle
          inW := fun b j u hu => by
            change S b j = some u at hu
            by_cases hb : q.1 b
            · rw [← hS1 b hb]; exact hu
            · rw [hS2 b hb] at hu; exact hg.inW b j u hu
          β := hg.β
          box := fun i m hm hi => by
            obtain ⟨hd, h1, h2⟩ := hg.box i m hm hi
            exact ⟨hd, h1, h2.keep (g := g') (g' := ⟨S, g'.β, g'.φ⟩) hle (fun _ _ _ h => h) fun x hx => ⟨rfl, fun j => hS2 x (fun h1 => hap i m x hm hi (hq.a x h1) hx) j⟩⟩
          src := hg.src
          dis := hg.dis
          dnew := fun b j u hu => by
            change S b j = some u at hu
            by_cases hb : q.1 b
            · exact .inr (hF b (hq.a b hb))
            · rw [hS2 b hb] at hu; exact hg.dnew b j u hu
          below := hg.below }
theorem CallOk.soft {P : Program} {f : FuncId} {args ls : List M} {r r' : M} {bs : List Bk} (hs : Soft r r') (h : CallOk P f args ls (.ret r) bs) : CallOk P f args ls (.ret r') bs := by
 intro g w vs hL hR
 rcases h g w vs hL hR with ⟨h1, h2⟩ | ⟨v, w', h1, h2⟩
 ·exact .inl ⟨h1, Calls.mono h2 fun e w' hc => hc.soft hs⟩
 ·exact .inr ⟨v, w', h1, h2.soft hs⟩
end Go.Bm
/- V's that are owned: as committed, with one level owned. -/
namespace Go.Bm
theorem V.oc_vt {bx : Nat → Option M} (v : V) : VtL bx v.oc v.cells := by
 refine V.induct (p := fun v => VtL bx v.oc v.cells) ?_ v
 intro v ih
 cases v with
 | mk k i f s l =>
  refine .cons (.t _) (.cons (.t _) (.cons (.t _) (.cons (.t _) (.cons ?_ (.nil bx)))))
  show Vt bx (.oa [] 5 (V.ocs l)) (.sl (V.rows l))
  rw [V.ocs_map, V.rows_map]
  exact vt_map l fun x hx => ih x hx
theorem V.ocs_vt {bx : Nat → Option M} {hs : List Nat} {z : Nat} (l : List V) : Vt bx (.oa hs z (V.ocs l)) (.sl (V.rows l)) := by
 rw [V.ocs_map, V.rows_map]
 exact vt_map l fun x _ => x.oc_vt
def SoftL (cs ds : List M) : Prop := cs.length = ds.length ∧ ∀ (j : Nat) (c d : M), cs[j]? = some c → ds[j]? = some d → Soft c d
theorem SoftL.nil : SoftL [] [] := ⟨rfl, fun j c r h => by simp at h⟩
theorem SoftL.cons {c d : M} {cs ds : List M} (h : Soft c d) (k : SoftL cs ds) : SoftL (c :: cs) (d :: ds) := by
 refine ⟨by simp [k.1], fun j c' r' hc hr => ?_⟩
 cases j with
 | zero => simp at hc hr; subst hc; subst hr; exact h
 | succ j => exact k.2 j c' r' (by simpa using hc) (by simpa using hr)
theorem SoftL.agg {cs ds : List M} (h : SoftL cs ds) : Soft (.agg cs) (.agg ds) := .agg cs ds h.1 h.2
theorem soft_map {α : Type} {z : Nat} {f g : α → List M} (l : List α) (h : ∀ x ∈ l, SoftL (f x) (g x)) : Soft (.oa [] z (l.map f)) (.oa [] z (l.map g)) := by
 refine .oa z _ _ (by simp) (fun i cs rs h1 h2 => ?_) (fun i j cs rs c r h1 h2 h3 h4 => ?_)
 ·cases e : l[i]? with
  | none => simp [e] at h1
  | some x =>
   simp only [List.getElem?_map, e, Option.map_some, Option.some.injEq] at h1 h2
   subst h1; subst h2
   exact (h x (List.mem_of_getElem? e)).1
 ·cases e : l[i]? with
  | none => simp [e] at h1
  | some x =>
   simp only [List.getElem?_map, e, Option.map_some, Option.some.injEq] at h1 h2
   subst h1; subst h2
   exact (h x (List.mem_of_getElem? e)).2 j c r h3 h4
theorem soft_oa {z : Nat} {xs : List (List M)} {ts : List (List T)} (h : Vt noB (.oa [] z xs) (.sl ts)) : Soft (.oa [] z xs) (.oa [] z (rowsT ts)) := by
 cases h with
 | oa _ _ _ _ hl hr h =>
  refine .oa z _ _ (by simp [rowsT, hl]) (fun i cs ds h1 h2 => ?_) (fun i j cs ds c d h1 h2 h3 h4 => ?_)
  ·cases e : ts[i]? with
   | none => simp [rowsT, e] at h2
   | some rs =>
    simp only [rowsT, List.getElem?_map, e, Option.map_some, Option.some.injEq] at h2
    subst h2
    rw [hr i cs rs h1 e]; simp
  ·cases e : ts[i]? with
   | none => simp [rowsT, e] at h2
   | some rs =>
    simp only [rowsT, List.getElem?_map, e, Option.map_some, Option.some.injEq] at h2
    subst h2
    cases e2 : rs[j]? with
    | none => simp [e2] at h4
    | some r =>
     simp only [List.getElem?_map, e2, Option.map_some, Option.some.injEq] at h4
     subst h4
     have hv := h i j cs rs c r h1 e h3 e2
     by_cases ho : isOwned c = true
     ·exact .com c r ho hv
     ·cases hv with
      | t => exact .same _
      | tight xs => exact .cl _ _ rfl
      | own id z xs => exact .cl _ _ rfl
      | op => simp [isOwned] at ho
      | oa => simp [isOwned] at ho
      | sb => rename_i hk _ _; cases hk
theorem V.oc_soft1 (v : V) : SoftL v.oc v.o1 := by
 cases v with
 | mk k i f s l => exact .cons (.same _) (.cons (.same _) (.cons (.same _) (.cons (.same _) (.cons (soft_oa (V.ocs_vt l)) .nil))))
theorem V.ocs_soft1 (l : List V) : Soft (.oa [] 5 (V.ocs l)) (.oa [] 5 (V.o1s l)) := by
 rw [V.ocs_map]
 exact soft_map l fun v _ => v.oc_soft1
def V.book (v : V) : List M := [.t (.s (.int .i64 v.k)), .t (.s (.int .i64 v.i)), .t (.f v.f), .t (.s (.string v.s)), .oa [] 5 (V.o1s v.l)]
theorem V.oc_book (v : V) : Soft (.agg v.oc) (.agg v.book) := by
 cases v with
 | mk k i f s l => exact SoftL.agg (.cons (.same _) (.cons (.same _) (.cons (.same _) (.cons (.same _) (.cons (V.ocs_soft1 l) .nil)))))
end Go.Bm
/- A book, as if committed. -/
namespace Go.Bm
theorem vt_whole {bx : Nat → Option M} {j z n : Nat} {hs : List Nat} {xs : List (List M)} {ts : List (List T)} (hj : bx j = some (.oa hs z xs)) (hn : n = ts.length) (h : Vt bx (.oa hs z xs) (.sl ts)) : Vt bx (.sb j z 0 n) (.sl ts) := by
 have hl : xs.length = ts.length := by cases h with | oa _ _ _ _ hl _ _ => exact hl
 have := Vt.sb (bx := bx) j z 0 n hs xs ts hj (by omega) h
 rw [hn] at this ⊢
 simpa using this
theorem vm_one {bx : Nat → Option M} {k : Nat} {c : M} {t : T} (hk : bx k = some (.os [c])) (h : Vt bx c t) : Vm bx (.ptr k 0) (.cp [t]) :=
 Vm.ptr (bx := bx) k 0 [c] [t] hk rfl fun j c' r hc hr => by
  cases j with
  | zero => simp at hc hr; subst hc; subst hr; exact h
  | succ j => simp at hc
theorem vm_book {bx : Nat → Option M} {k : Nat} {l : List V} (hk : bx k = some (.os [.oa [] 5 (V.o1s l)])) : Vm bx (.ptr k 0) (.cp [.sl (V.rows l)]) := vm_one hk (V.o1s_vt l)
theorem vt_set {bx : Nat → Option M} {hs : List Nat} {z : Nat} {xs : List (List M)} {ts : List (List T)} {i : Nat} {cs : List M} {rs : List T} (h : Vt bx (.oa hs z xs) (.sl ts)) (hi : ts[i]? = some rs) (hc : VtL bx cs rs) : Vt bx (.oa hs z (xs.set i cs)) (.sl ts) := by
 cases h with
 | oa _ _ _ _ hl hr h =>
  have hlt : i < xs.length := by rw [hl]; exact (List.getElem?_eq_some_iff.1 hi).1
  have hg : ∀ i', (xs.set i cs)[i']? = if i' = i then some cs else xs[i']? := fun i' => by
   rw [List.getElem?_set]
   by_cases e : i = i'
   ·subst e; simp [hlt]
   ·simp [e, Ne.symm e]
  refine .oa hs z _ ts (by simp [hl]) (fun i' cs' rs' h1 h2 => ?_) (fun i' j cs' rs' c r h1 h2 h3 h4 => ?_)
  ·rw [hg] at h1
   split at h1
   ·rename_i e; subst e; cases h1; rw [hi] at h2; cases h2; exact hc.1
   ·exact hr i' cs' rs' h1 h2
  ·rw [hg] at h1
   split at h1
   ·rename_i e; subst e; cases h1; rw [hi] at h2; cases h2; exact hc.2 j c r h3 h4
   ·exact h i' j cs' rs' c r h1 h2 h3 h4
theorem vm_book2 {bx : Nat → Option M} {k j q n m i : Nat} {hs hs' : List Nat} {l : List V} {x : V} (hk : bx k = some (.os [.sb j 5 0 n])) (hx : l[i]? = some x)
  (hj : bx j = some (.oa hs 5 ((V.o1s l).set i [.t (.s (.int .i64 x.k)), .t (.s (.int .i64 x.i)), .t (.f x.f), .t (.s (.string x.s)), .sb q 5 0 m])))
  (hq : bx q = some (.oa hs' 5 (rowsT (V.rows x.l)))) (hn : n = l.length) (hm : m = x.l.length) : Vm bx (.ptr k 0) (.cp [.sl (V.rows l)]) := by
 refine vm_one hk (vt_whole hj (by rw [V.rows_length]; exact hn) (vt_set (V.o1s_vt l) (rs := x.cells) (by rw [V.rows_get, hx]; rfl) ?_))
 exact .cons (.t _) (.cons (.t _) (.cons (.t _) (.cons (.t _) (.cons (vt_whole hq (by rw [V.rows_length]; exact hm) (vt_rowsT _)) (.nil bx)))))
theorem VmL.nil (bx : Nat → Option M) : VmL bx [] [] := ⟨rfl, fun j c r h => by simp at h⟩
theorem VmL.cons {bx : Nat → Option M} {c r : M} {cs rs : List M} (h : Vm bx c r) (k : VmL bx cs rs) : VmL bx (c :: cs) (r :: rs) := by
 refine ⟨by simp [k.1], fun j c' r' hc hr => ?_⟩
 cases j with
 | zero => simp at hc hr; subst hc; subst hr; exact h
 | succ j => exact k.2 j c' r' (by simpa using hc) (by simpa using hr)
theorem VmL.agg {bx : Nat → Option M} {cs rs : List M} (h : VmL bx cs rs) : Vm bx (.agg cs) (.agg rs) := .agg cs rs h.1 h.2
theorem VmL.clo {bx : Nat → Option M} {f : FuncId} {cs rs : List M} (h : VmL bx cs rs) : Vm bx (.clo f cs) (.clo f rs) := .clo f cs rs h.1 h.2
theorem vm_t {bx : Nat → Option M} (x : T) : Vm bx (.t x) (.t x) := .t _ _ (.t x)
mutual
def plainM : M → Bool
 | .t _ => true
 | .cp _ => true
 | .agg cs => plainMs cs
 | .clo _ cs => plainMs cs
 | _ => false
def plainMs : List M → Bool
 | [] => true
 | m :: r => plainM m && plainMs r
end
mutual
theorem vm_plain {bx : Nat → Option M} : ∀ (m : M), plainM m = true → Vm bx m m
 | .t x, _ => vm_t x
 | .cp cs, _ => .cp cs
 | .agg cs, h => (vm_plains cs (by simpa only [plainM] using h)).agg
 | .clo f cs, h => (vm_plains cs (by simpa only [plainM] using h)).clo
 | .any, h => by simp [plainM] at h
 | .tight _, h => by simp [plainM] at h
 | .tup _, h => by simp [plainM] at h
 | .own _ _ _, h => by simp [plainM] at h
 | .ptr _ _, h => by simp [plainM] at h
 | .pe _ _ _, h => by simp [plainM] at h
 | .sb _ _ _ _, h => by simp [plainM] at h
 | .mp _, h => by simp [plainM] at h
 | .os _, h => by simp [plainM] at h
 | .oa _ _ _, h => by simp [plainM] at h
 | .op _ _, h => by simp [plainM] at h
 | .om _ _, h => by simp [plainM] at h
theorem vm_plains {bx : Nat → Option M} : ∀ (cs : List M), plainMs cs = true → VmL bx cs cs
 | [], _ => .nil bx
 | m :: r, h => by
  simp only [plainMs, Bool.and_eq_true] at h
  exact .cons (vm_plain m h.1) (vm_plains r h.2)
end
end Go.Bm
/- Elements put into an array, taken out of it: from what a call does to its cells to what it does to its elements. -/
namespace Go.Bm
open Go.RowKit (Below)
theorem Els.take {g : Gh} {w : World} {z : Nat} {xs : List (List M)} {vs : List Value} {A : Nat → Nat → Foot} (h : Els g w z xs vs A) (n : Nat) : Els g w z (xs.take n) (vs.take (n * z)) (fun i j x => i < n ∧ A i j x) := by
 refine ⟨?_, fun i cs hi => ?_, fun i j x hx => ?_, fun i j i' j' x hx hx' => h.dis i j i' j' x hx.2 hx'.2, fun v hv => h.one v (List.mem_of_mem_take hv), fun i j cs c v hi hj hv => ?_⟩
 ·rw [List.length_take, List.length_take, h.len]
  rcases Nat.le_total n xs.length with e | e
  ·rw [Nat.min_eq_left e, Nat.min_eq_left (Nat.mul_le_mul_right z e)]
  ·rw [Nat.min_eq_right e, Nat.min_eq_right (Nat.mul_le_mul_right z e)]
 ·rw [List.getElem?_take] at hi
  split at hi
  ·exact h.el i cs hi
  ·cases hi
 ·have := h.sub i j x hx.2
  rw [List.length_take]; omega
 ·rw [List.getElem?_take] at hi hv
  split at hi
  ·rename_i hlt
   split at hv
   ·have e : (fun x => i < n ∧ A i j x) = A i j := funext fun x => propext ⟨fun h => h.2, fun h => ⟨hlt, h⟩⟩
    rw [e]
    exact h.rep i j cs c v hi hj hv
   ·cases hv
  ·cases hi
theorem Els.drop {g : Gh} {w : World} {z : Nat} {xs : List (List M)} {vs : List Value} {A : Nat → Nat → Foot} (h : Els g w z xs vs A) (n : Nat) : Els g w z (xs.drop n) (vs.drop (n * z)) (fun i j => A (n + i) j) := by
 refine ⟨?_, fun i cs hi => ?_, fun i j x hx => ?_, fun i j i' j' x hx hx' => ?_, fun v hv => h.one v (List.mem_of_mem_drop hv), fun i j cs c v hi hj hv => ?_⟩
 ·rw [List.length_drop, List.length_drop, h.len, ← Nat.sub_mul]
 ·rw [List.getElem?_drop] at hi; exact h.el _ cs hi
 ·have := h.sub _ j x hx
  rw [List.length_drop]; omega
 ·have := h.dis _ _ _ _ x hx hx'; omega
 ·rw [List.getElem?_drop] at hi hv
  rw [show n * z + (i * z + j) = (n + i) * z + j by rw [Nat.add_mul]; omega] at hv
  exact h.rep _ j cs c v hi hj hv
theorem Els.own {D : Dm} {g : Gh} {w : World} {z : Nat} {xs : List (List M)} {vs : List Value} {A : Nat → Nat → Foot} (hD : g.D = D) (h : Els (g.only []) w z xs vs A) {b o c : Nat} {cur : Array Value} {ty : TypeId}
  (hb : w.heap[b]? = some (.cells cur ty (0, 0))) (hd : ∀ j, D b j = none) (hsz : cur.size = o + c * z) (h1 : ∀ u ∈ cur.toList, u.oneCell' = true) (h0 : 0 < z) (hc : xs.length ≤ c ∧ xs.length ≤ 274877906944 ∧ c ≤ maxLen)
  (hA : ∀ i j x, A i j x → x ≠ b) (hcur : ∀ q u, vs[q]? = some u → cur[o + q]? = some u) {F : Foot} (hF : ∀ x, F x ↔ x = b ∨ ∃ i j, A i j x) : OwN D w (.oa [] z xs) (.slice (some ⟨b, o, none⟩) xs.length c) F := by
 subst hD
 refine .oa b o c z cur ty xs A F hb hd hsz h1 h0 hc h.el (fun i j x hx => ⟨h.sub i j x hx, hA i j x hx⟩) h.dis hF fun i j cs d v hi hj hv => ?_
 have hjz : j < z := by rw [← h.el i cs hi]; exact (List.getElem?_eq_some_iff.1 hj).1
 have hil := (List.getElem?_eq_some_iff.1 hi).1
 have hlt : i * z + j < vs.length := by
  rw [h.len]
  have : (i + 1) * z ≤ xs.length * z := Nat.mul_le_mul_right z hil
  rw [Nat.add_mul] at this; omega
 have e := List.getElem?_eq_getElem hlt
 have e' := hcur _ _ e
 rw [e'] at hv
 cases hv
 have hw := h.rep i j cs d _ hi hj e
 rcases hw with hw | ⟨hw, hn⟩
 ·exact hw
 ·exact .leaf _ _ _ (RepM.turn (g := g.only []) (g' := Gh.of g.D) (Dm.le_refl g.D) hw (fun k _ b hb => by simp [Gh.only, memN] at hb)) hn
def InsRaw (P : Program) (f : FuncId) (z bytes : Nat) : Prop :=
 ∀ (w : World) (base : Option (Nat × Nat)) (n c i vb vo m vc : Nat) (fl gl : List Value), i ≤ n → n ≤ c → c ≤ maxLen → (base = none → c = 0) → 0 < m → (n + m) * bytes ≤ 140737488355328 → n + m ≤ 274877906944 → fl.length = n * z → gl.length = m * z →
  (∀ u ∈ fl, u.oneCell' = true) → (∀ u ∈ gl, u.oneCell' = true) →
  (∀ b o, base = some (b, o) → 0 < c → b ≠ vb ∧ ∃ cur ty, w.heap[b]? = some (.cells cur ty (0, 0)) ∧ cur.size = o + c * z ∧ (∀ u ∈ cur.toList, u.oneCell' = true) ∧ ∀ q u, fl[q]? = some u → cur[o + q]? = some u) →
  (∃ cur ty, w.heap[vb]? = some (.cells cur ty (0, 0)) ∧ (∀ q u, gl[q]? = some u → cur[vo + q]? = some u)) →
  Calls P f #[.slice (sladdr base) n c, .int .i64 i, .slice (some ⟨vb, vo, none⟩) m vc] w fun e w' =>
   ∃ b' o' c' cur' ty', e = .returned (.slice (some ⟨b', o', none⟩) (n + m) c') ∧ w'.heap[b']? = some (.cells cur' ty' (0, 0)) ∧ Belows (fun x => 0 < c ∧ ∃ o, base = some (x, o)) w w' ∧ (w.heap.size ≤ b' ∨ 0 < c ∧ ∃ o, base = some (b', o)) ∧
    cur'.size = o' + c' * z ∧ (∀ u ∈ cur'.toList, u.oneCell' = true) ∧ n + m ≤ c' ∧ c' ≤ maxLen ∧ ∀ q u, (fl.take (i * z) ++ gl ++ fl.drop (i * z))[q]? = some u → cur'[o' + q]? = some u
theorem InsRaw.ok {P : Program} {f : FuncId} {z bytes : Nat} (h0 : 0 < z) (hf : ∀ (vs : Array Value) (w : World), (callFunc f vs).run P w = .ok (.enter f vs) w) (hr : InsRaw P f z bytes) (xs rs : List (List M)) (i : Nat) (hi : i ≤ xs.length) (hm : 0 < rs.length)
    (hbig : (xs.length + rs.length) * bytes ≤ 140737488355328) (hbig' : xs.length + rs.length ≤ 274877906944) :
    CallOk P f [.sb CB z 0 xs.length, .t (.s (.int .i64 (i : Int))), .sb (CB + 1) z 0 rs.length] [.oa [] z xs, .oa [] z rs] (.ret (.oa [] z (xs.take i ++ rs ++ xs.drop i))) [.gone, .gone] := by
  intro g w vs hL hR
  refine .inl ⟨hf _ _, ?_⟩
  obtain ⟨v0, r0, rfl, hv0, hR⟩ := hR.cons_inv
  obtain ⟨v1, r1, rfl, hv1, hR⟩ := hR.cons_inv
  obtain ⟨v2, r2, rfl, hv2, hR⟩ := hR.cons_inv
  obtain rfl := hR.nil_inv
  obtain rfl := hv1.s_inv
  have hl0 : lookB (named [.gone, .gone] [.oa [] z xs, .oa [] z rs]) CB = some (.oa [] z xs) := rfl
  have hl1 : lookB (named [.gone, .gone] [.oa [] z xs, .oa [] z rs]) (CB + 1) = some (.oa [] z rs) := rfl
  obtain ⟨hd0, hβ0, hb0⟩ := hL.bx _ _ hl0
  obtain ⟨hd1, hβ1, hb1⟩ := hL.bx _ _ hl1
  have hsep : ∀ x, g.φ CB x → g.φ (CB + 1) x → False := fun x h h' => absurd (hL.sep _ _ _ _ x hl0 hl1 h h') (by decide)
  -- what is put in
  obtain ⟨vb, vo, vk, vcur, vty, gl, B, rfl, hEB, hvb, hvd, hvsz, hv1c, _, hvc, hBne, hBq, hBF⟩ := hb1.els.resolve_left (fun ⟨_, e, _⟩ => by rw [e] at hm; cases hm) |>.resolve_left (fun ⟨_, _, e, _⟩ => by rw [e] at hm; cases hm)
  obtain ⟨vc, rfl⟩ : ∃ vc, v2 = .slice (some ⟨vb, vo, none⟩) rs.length vc := by
    generalize hl : rs.length = l at hv2 hm
    cases hv2 with
    | sb b o z c k lo n hk _ _ => rw [hβ1] at hk; cases hk; exact ⟨vk - 0, by simp⟩
    | sbe => cases hm
    | sb0 => cases hm
  -- what it is put into
  have hbase : ∃ (base : Option (Nat × Nat)) (c : Nat) (fl : List Value) (A : Nat → Nat → Foot), v0 = .slice (sladdr base) xs.length c ∧ xs.length ≤ c ∧ c ≤ maxLen ∧ (base = none → c = 0) ∧ Els (g.only []) w z xs fl A ∧ (∀ i j x, A i j x → g.φ CB x) ∧ (∀ i j x b o, base = some (b, o) → A i j x → x ≠ b) ∧
      (∀ b o, base = some (b, o) → 0 < c → g.φ CB b ∧ (∀ j, g.D b j = none) ∧ ∃ cur ty, w.heap[b]? = some (.cells cur ty (0, 0)) ∧ cur.size = o + c * z ∧ (∀ u ∈ cur.toList, u.oneCell' = true) ∧ ∀ q u, fl[q]? = some u → cur[o + q]? = some u) := by
    rcases hb0.els with ⟨c, rfl, rfl, hn⟩ | ⟨a, q, rfl, rfl, hn⟩ | ⟨b, o, c, cur, ty, fl, A, rfl, hE, hb, hd, hs, h1, _, hc, hA, hq, hF⟩
    · cases hv0 with
      | sb b o z c k lo n hk _ _ => rw [hβ0] at hk; cases hk
      | sbe a q b o z k lo hk => rw [hβ0] at hk; cases hk
      | sb0 z c k hk => exact ⟨none, 0, [], fun _ _ _ => False, rfl, Nat.zero_le _, Nat.zero_le _, fun _ => rfl, Els.nil _ _ _, fun i j x h => h.elim, fun i j x b o e => (by cases e), fun b o e => (by cases e)⟩
    · cases hv0 with
      | sb b o z c k lo n hk hc _ =>
        rw [hβ0] at hk; cases hk
        exact ⟨some (a, q), 0, [], fun _ _ _ => False, by simp [sladdr], Nat.zero_le _, Nat.zero_le _, fun e => (by cases e), Els.nil _ _ _, fun i j x h => h.elim, fun i j x b o e h => h.elim, fun b o e h => absurd h (Nat.lt_irrefl 0)⟩
      | sbe a' q' b o z k lo hk =>
        rw [hβ0] at hk; cases hk
        exact ⟨some (a', q'), 0, [], fun _ _ _ => False, by simp [sladdr], Nat.zero_le _, Nat.zero_le _, fun e => (by cases e), Els.nil _ _ _, fun i j x h => h.elim, fun i j x b o e h => h.elim, fun b o e h => absurd h (Nat.lt_irrefl 0)⟩
      | sb0 z c k hk => rw [hβ0] at hk; cases hk
    · generalize hxl : xs.length = l at hv0
      cases hv0 with
      | sb b' o' z c' k lo n hk _ _ =>
        rw [hβ0] at hk; cases hk
        subst hxl
        refine ⟨some (b, o), c, fl, A, by simp [sladdr], hc.1, hc.2.2, fun e => (by cases e), hE, fun i j x hx => (hF x).2 (.inr ⟨i, j, hx⟩), fun i j x b' o' e hx => ?_, fun b' o' e _ => ?_⟩
        · cases e; exact hA i j x hx
        · cases e; exact ⟨(hF _).2 (.inl rfl), hd, cur, ty, hb, hs, h1, hq⟩
      | sbe a' q' b' o' z k lo hk =>
        rw [hβ0] at hk; cases hk
        have : xs = [] := List.eq_nil_of_length_eq_zero hxl
        subst this
        exact ⟨some (a', q'), 0, [], fun _ _ _ => False, by simp [sladdr], Nat.zero_le _, Nat.zero_le _, fun e => (by cases e), Els.nil _ _ _, fun i j x h => h.elim, fun i j x b o e h => h.elim, fun b o e h => absurd h (Nat.lt_irrefl 0)⟩
      | sb0 z c k hk => rw [hβ0] at hk; cases hk
  obtain ⟨base, c, fl, A, rfl, hnc, hcm, hcn, hEA, hAφ, hAne, hin⟩ := hbase
  have hvbφ : g.φ (CB + 1) vb := (hBF vb).2 (.inl rfl)
  refine Calls.mono (hr w base xs.length c i vb vo rs.length vc fl gl hi hnc hcm hcn hm hbig hbig' hEA.len hEB.len hEA.one hEB.one
    (fun b o e hc => by
      obtain ⟨h1, h2, h3⟩ := hin b o e hc
      exact ⟨fun e => hsep b h1 (e ▸ hvbφ), h3⟩)
    ⟨vcur, vty, hvb, hBq⟩) ?_
  rintro e w' ⟨b', o', c', cur', ty', rfl, hb', hbel, hsrc, hsz', h1', hc', hcm', hq'⟩
  -- blocks that stay
  have hX : ∀ x, (0 < c ∧ ∃ o, base = some (x, o)) → g.φ CB x ∧ ∀ j, g.D x j = none := fun x ⟨hc, o, e⟩ => ⟨(hin x o e hc).1, (hin x o e hc).2.1⟩
  have hAlt : ∀ i j x, A i j x → x < w.heap.size := hEA.lt
  have hBlt : ∀ i j x, B i j x → x < w.heap.size := hEB.lt
  have hAk : ∀ i j, Keep g.D g.D w w' (A i j) := fun i j x hx => ⟨hbel.block x (hAlt i j x hx) fun ⟨_, o, e⟩ => hAne i j x x o e hx rfl, fun _ => rfl⟩
  have hBφ : ∀ i j x, B i j x → g.φ (CB + 1) x := fun i j x hx => (hBF x).2 (.inr ⟨i, j, hx⟩)
  have hBk : ∀ i j, Keep g.D g.D w w' (B i j) := fun i j x hx => ⟨hbel.block x (hBlt i j x hx) fun h => hsep x (hX x h).1 (hBφ i j x hx), fun _ => rfl⟩
  have hEA' := hEA.keep (Dm.le_refl _) (fun k b h => h) hAk
  have hEB' := hEB.keep (Dm.le_refl _) (fun k b h => h) hBk
  have hE1 := (hEA'.take i).append hEB' (fun i j i' j' x h h' => hsep x (hAφ _ _ x h.2) (hBφ _ _ x h'))
  have hE2 := hE1.append (hEA'.drop i) (fun i1 j i' j' x h h' => by
    split at h
    · rename_i hlt
      have := hEA.dis _ _ _ _ x h.2 h'
      omega
    · exact hsep x (hAφ _ _ x h') (hBφ _ _ x h))
  have hDw : g.D.inW w' := fun b j u hu => by
    have hlt := Dm.inW_lt hL.dw hu
    have hne : ¬ (0 < c ∧ ∃ o, base = some (b, o)) := fun h => by rw [(hX b h).2 j] at hu; cases hu
    have := hL.dw b j u hu
    rw [World.cell?_of_block (a := ⟨b, j, none⟩) (hbel.block b hlt hne)]
    exact this
  have hlen : (xs.take i ++ rs ++ xs.drop i).length = xs.length + rs.length := by simp; omega
  have hb'D : ∀ j, g.D b' j = none := fun j => by
    rcases hsrc with h | h
    · exact Dm.none_of_ge hL.dw h j
    · exact (hX b' h).2 j
  have hFF : ∀ x, (∃ i1 j, (if i1 < (xs.take i ++ rs).length then (if i1 < (xs.take i).length then (fun x => i1 < i ∧ A i1 j x) else B (i1 - (xs.take i).length) j) else A (i + (i1 - (xs.take i ++ rs).length)) j) x) → g.φ CB x ∨ g.φ (CB + 1) x := by
    rintro x ⟨i1, j, hx⟩
    split at hx
    · split at hx
      · exact .inl (hAφ _ _ x hx.2)
      · exact .inr (hBφ _ _ x hx)
    · exact .inl (hAφ _ _ x hx)
  have hne' : ∀ i1 j x, (if i1 < (xs.take i ++ rs).length then (if i1 < (xs.take i).length then (fun x => i1 < i ∧ A i1 j x) else B (i1 - (xs.take i).length) j) else A (i + (i1 - (xs.take i ++ rs).length)) j) x → x ≠ b' := by
    intro i1 j x hx
    have key : (∃ i j, A i j x) ∨ ∃ i j, B i j x := by
      split at hx
      · split at hx
        · exact .inl ⟨_, _, hx.2⟩
        · exact .inr ⟨_, _, hx⟩
      · exact .inl ⟨_, _, hx⟩
    rintro rfl
    rcases key with ⟨i, j, h⟩ | ⟨i, j, h⟩
    · rcases hsrc with hs | ⟨_, o, e⟩
      · exact absurd (hAlt i j x h) (by omega)
      · exact hAne i j x x o e h rfl
    · rcases hsrc with hs | hs
      · exact absurd (hBlt i j x h) (by omega)
      · exact hsep x (hX x hs).1 (hBφ i j x h)
  have hown := Els.own (D := g.D) rfl hE2 (b := b') (o := o') (c := c') (cur := cur') (ty := ty') hb' hb'D hsz' h1' h0 ⟨by rw [hlen]; exact hc', by rw [hlen]; exact hbig', hcm'⟩ hne' hq' (F := fun x => x = b' ∨ ∃ i1 j, _) (fun x => Iff.rfl)
  rw [hlen] at hown
  have hlx0 : ∀ x, g.φ CB x → LX g [.gone, .gone] [.oa [] z xs, .oa [] z rs] x := fun x h => ⟨CB, _, hl0, by decide, h⟩
  have hlx1 : ∀ x, g.φ (CB + 1) x → LX g [.gone, .gone] [.oa [] z xs, .oa [] z rs] x := fun x h => ⟨CB + 1, _, hl1, by decide, h⟩
  refine ⟨g, ?_, _, _, rfl, .own _ _ _ rfl hown, fun b hb => ?_, fun i m b hm => ?_⟩
  · exact { D := Dm.le_refl _, inW := hDw, β := fun _ _ => rfl, box := fun i m hm => (by rcases i with _ | _ | i <;> simp at hm), src := fun i m b hm => (by rcases i with _ | _ | i <;> simp at hm),
            dis := fun i i' m m' b hm => (by rcases i with _ | _ | i <;> simp at hm), dnew := fun b j u h => .inl h,
            below := ⟨hbel.os, hbel.tape, hbel.output, hbel.size, fun k hk hn => hbel.block k hk fun h => hn (hlx0 k (hX k h).1)⟩ }
  · rcases hb with rfl | hb
    · rcases hsrc with h | h
      · exact .inl h
      · exact .inr (hlx0 _ (hX _ h).1)
    · rcases hFF b hb with h | h
      · exact .inr (hlx0 _ h)
      · exact .inr (hlx1 _ h)
  · rcases i with _ | _ | i <;> simp at hm
end Go.Bm
/- What is lent, softer; what comes back, softer. -/
namespace Go.Bm
open Go.RowKit (Below)
theorem box_soft {g : Gh} {w : World} {cs : List M} {hd : Hd} {F : Foot} {c : Nat} {m m' : M} (h : BoxOk g w (.os cs) hd F) (hc : cs[c]? = some m) (ho : isOwned m = true) (hs : Soft m m') :
  ∃ Q F' : Foot, (∀ x, Q x → F x) ∧ (∀ x, F' x → F x ∧ ¬ Q x) ∧ ∀ (S : Dm) (φ' : Nat → Foot), g.D.le S → (∀ x, Q x → ∀ j, S x j = w.cell? ⟨x, j, none⟩) → (∀ x, F' x → ∀ j, S x j = g.D x j) → BoxOk ⟨S, g.β, φ'⟩ w (.os (cs.set c m')) hd F' := by
 cases h with
 | os b ty vs _ A _ hl hb hd hA hdis hF h =>
  have hcl := (List.getElem?_eq_some_iff.1 hc).1
  have hvc := List.getElem?_eq_getElem (l := vs) (i := c) (by omega)
  have hown : OwN g.D w m vs[c] (A c) := by
   rcases h c _ m hvc hc with h | ⟨h, _⟩
   ·exact h
   ·generalize vs[c] = u at h
    cases m <;> simp [isOwned] at ho <;> cases h
  obtain ⟨q, hq⟩ := OwN.soft hs hown (fun cs e => by subst e; simp [isOwned] at ho) (fun cs e => by subst e; simp [isOwned] at ho)
  let A' : Nat → Foot := fun j => if j = c then q.2 else A j
  have hA' : ∀ j x, A' j x → A j x := fun j x hx => by
   simp only [A'] at hx
   split at hx
   ·rename_i e; subst e; exact hq.b x hx
   ·exact hx
  have hnq : ∀ j x, A' j x → ¬ q.1 x := fun j x hx hq1 => by
   have hac := hq.a x hq1
   have := hdis _ _ x (hA' j x hx) hac
   subst this
   simp only [A', if_true] at hx
   exact hq.ab x hq1 hx
  refine ⟨q.1, fun x => x = b ∨ ∃ j, A' j x, fun x hx => (hF x).2 (.inr ⟨c, hq.a x hx⟩), fun x hx => ?_, fun S φ' hS h1 h2 => ?_⟩
  ·rcases hx with rfl | ⟨j, hx⟩
   ·exact ⟨(hF x).2 (.inl rfl), fun h => (hA c x (hq.a x h)).2 rfl⟩
   ·exact ⟨(hF x).2 (.inr ⟨j, hA' j x hx⟩), hnq j x hx⟩
  ·refine .os b ty vs _ A' _ (by simp [hl]) hb (fun j => (h2 b (.inl rfl) j).trans (hd j)) (fun j x hx => by have := hA j x (hA' j x hx); simpa using this) (fun i j x hi hj => hdis i j x (hA' i x hi) (hA' j x hj)) (fun x => Iff.rfl) fun j v d hv hd => ?_
   rw [List.getElem?_set] at hd
   by_cases e : j = c
   ·subst e
    have hlt : j < cs.length := hcl
    simp only [if_true, hlt] at hd
    cases hd
    obtain rfl : vs[j] = v := Option.some.inj (hvc.symm.trans hv)
    have e2 : A' j = q.2 := by simp [A']
    rw [e2]
    exact .inl (hq.rep S hS h1 fun x hx => h2 x (.inr ⟨j, by rw [e2]; exact hx⟩))
   ·rw [if_neg (Ne.symm e)] at hd
    have e2 : A' j = A j := by simp [A', e]
    rw [e2]
    exact (h j v d hv hd).keep (g' := ⟨S, g.β, φ'⟩) hS (fun _ _ _ h => h) fun x hx => ⟨rfl, h2 x (.inr ⟨j, by rw [e2]; exact hx⟩)⟩
theorem RepR.withφ {D : Dm} {β : Nat → Option Hd} {φ : Nat → Foot} {w : World} {r : M} {v : Value} {F : Foot} (φ' : Nat → Foot) (h : RepR ⟨D, β, φ⟩ w r v F) : RepR ⟨D, β, φ'⟩ w r v F := by
 induction h with
 | leaf m v F h hF => exact .leaf m v F (h.turn (g := ⟨D, β, φ⟩) (g' := ⟨D, β, φ'⟩) (Dm.le_refl D) fun _ _ _ h => h) hF
 | own m v F ho h => exact .own m v F ho h
 | agg vs cs A F hl hA hdis hF h ih => exact .agg vs cs A F hl hA hdis hF ih
 | tup vs cs A F hl hA hdis hF h ih => exact .tup vs cs A F hl hA hdis hF ih
theorem nameOf_set {bs : List Bk} {i : Nat} {m m' : M} (h : bs[i]? = some (.is m)) (j : Nat) : nameOf (bs.set i (.is m')) j = nameOf bs j := by
 unfold nameOf
 rw [List.getElem?_set]
 by_cases e : i = j
 ·subst e
  have := (List.getElem?_eq_some_iff.1 h).1
  rw [if_pos rfl, if_pos this, h]
 ·rw [if_neg e]
theorem Came.softB {g : Gh} {w : World} {ls : List M} {bs : List Bk} {oc : Oc} {i c : Nat} {cs : List M} {m m' : M} {e : Ending} {w' : World} (hi : i < ls.length) (hb : bs[i]? = some (.is (.os cs))) (hc : cs[c]? = some m) (ho : isOwned m = true) (hs : Soft m m')
    (h : Came g w ls bs oc e w') : Came g w ls (bs.set i (.is (.os (cs.set c m')))) oc e w' := by
  obtain ⟨g', hg, hoc⟩ := h
  have hil := (List.getElem?_eq_some_iff.1 hb).1
  obtain ⟨hd, hβ, hbox⟩ := hg.box i _ hb hi
  obtain ⟨Q, F', hQ, hF', hrep⟩ := box_soft hbox hc ho hs
  have hLX : LX g (bs.set i (.is (.os (cs.set c m')))) ls = LX g bs ls := by
    unfold LX
    rw [named_congr (nameOf_set hb)]
  let S : Dm := fun b j => open Classical in if Q b then w'.cell? ⟨b, j, none⟩ else g'.D b j
  have hS1 : ∀ x, Q x → ∀ j, S x j = w'.cell? ⟨x, j, none⟩ := fun x hx j => by simp [S, hx]
  have hS2 : ∀ x, ¬ Q x → ∀ j, S x j = g'.D x j := fun x hx j => by simp [S, hx]
  have hle : g'.D.le S := fun b j u hu => by
    by_cases hb : Q b
    · rw [hS1 b hb]; exact hg.inW b j u hu
    · rw [hS2 b hb]; exact hu
  let φ' : Nat → Foot := fun k => if k = CB + i then F' else g'.φ k
  have hφ : ∀ k x, φ' k x → g'.φ k x := fun k x hx => by
    simp only [φ'] at hx
    split at hx
    · rename_i e; subst e; exact (hF' x hx).1
    · exact hx
  have hget : ∀ (j : Nat) (o : M), (bs.set i (.is (.os (cs.set c m'))))[j]? = some (.is o) → (j = i ∧ o = .os (cs.set c m')) ∨ (j ≠ i ∧ bs[j]? = some (.is o)) := fun j o ho => by
    rw [List.getElem?_set] at ho
    by_cases e : i = j
    · subst e
      simp only [if_true, hil] at ho
      cases ho
      exact .inl ⟨rfl, rfl⟩
    · rw [if_neg e] at ho; exact .inr ⟨Ne.symm e, ho⟩
  have hfoot : ∀ (j : Nat) (o : M), (bs.set i (.is (.os (cs.set c m'))))[j]? = some (.is o) → ∃ o', bs[j]? = some (.is o') := fun j o ho => by
    rcases hget j o ho with ⟨rfl, _⟩ | ⟨_, h⟩
    · exact ⟨_, hb⟩
    · exact ⟨_, h⟩
  refine ⟨⟨S, g'.β, φ'⟩, ?_, ?_⟩
  · exact { D := Dm.le_trans hg.D hle
            inW := fun b j u hu => by
              change S b j = some u at hu
              by_cases hb : Q b
              · rw [← hS1 b hb]; exact hu
              · rw [hS2 b hb] at hu; exact hg.inW b j u hu
            β := hg.β
            box := fun j o hj hlt => by
              rcases hget j o hj with ⟨rfl, rfl⟩ | ⟨hne, hj⟩
              · have e : φ' (CB + j) = F' := by simp [φ']
                refine ⟨hd, hβ, ?_⟩
                show BoxOk _ _ _ _ (φ' (CB + _))
                rw [e]
                exact hrep S φ' hle hS1 fun x hx => hS2 x (hF' x hx).2
              · obtain ⟨hd', h1, h2⟩ := hg.box j o hj hlt
                have e : φ' (CB + j) = g'.φ (CB + j) := by simp [φ', hne]
                refine ⟨hd', h1, ?_⟩
                show BoxOk _ _ _ _ (φ' (CB + _))
                rw [e]
                exact h2.keep (g := g') (g' := ⟨S, g'.β, φ'⟩) hle (fun _ _ _ h => h) fun x hx => ⟨rfl, hS2 x fun hq => hne (hg.dis j i _ _ x hj hb hlt hi hx (hQ x hq))⟩
            src := fun j o b hj hlt hb' => by
              obtain ⟨o', ho'⟩ := hfoot j o hj
              rw [hLX]; exact hg.src j o' b ho' hlt (hφ _ b hb')
            dis := fun j j' o o' b hj hj' hlt hlt' h h' => by
              obtain ⟨_, h1⟩ := hfoot j o hj
              obtain ⟨_, h2⟩ := hfoot j' o' hj'
              exact hg.dis j j' _ _ b h1 h2 hlt hlt' (hφ _ b h) (hφ _ b h')
            dnew := fun b j u hu => by
              change S b j = some u at hu
              rw [hLX]
              by_cases hq : Q b
              · exact .inr (hg.src i _ b hb hi (hQ b hq))
              · rw [hS2 b hq] at hu; exact hg.dnew b j u hu
            below := by rw [hLX]; exact hg.below }
  · cases oc with
    | pan v => exact hoc
    | ret r =>
      obtain ⟨v, F, rfl, hr, hF, hap⟩ := hoc
      refine ⟨v, F, rfl, ?_, fun b hb => by rw [hLX]; exact hF b hb, fun j o b hj hlt hb h => ?_⟩
      · have := hr.keepD hle fun x hx => hS2 x fun hq => hap i _ x hb hi hx (hQ x hq)
        exact this.withφ φ'
      · obtain ⟨_, h1⟩ := hfoot j o hj
        exact hap j _ b h1 hlt hb (hφ _ b h)
theorem CallOk.softB {P : Program} {f : FuncId} {args ls : List M} {oc : Oc} {bs : List Bk} {i c : Nat} {cs : List M} {m m' : M} (hi : i < ls.length) (hb : bs[i]? = some (.is (.os cs))) (hc : cs[c]? = some m) (ho : isOwned m = true) (hs : Soft m m')
  (h : CallOk P f args ls oc bs) : CallOk P f args ls oc (bs.set i (.is (.os (cs.set c m')))) := by
 intro g w vs hL hR
 rw [named_congr (nameOf_set hb)] at hL
 rcases h g w vs hL hR with ⟨h1, h2⟩ | ⟨v, w', h1, h2⟩
 ·exact .inl ⟨h1, Calls.mono h2 fun e w' hc' => hc'.softB hi hb hc ho hs⟩
 ·exact .inr ⟨v, w', h1, h2.softB hi hb hc ho hs⟩
theorem CallOk.softL {P : Program} {f : FuncId} {args ls : List M} {oc : Oc} {bs : List Bk} {i c : Nat} {cs : List M} {m m' : M} (hlen : ls.length ≤ 1000) (hl : ls[i]? = some (.os cs)) (hbs : bs[i]? ≠ some .same) (hc : cs[c]? = some m) (ho : isOwned m = true) (hs : Soft m m')
    (h : CallOk P f args (ls.set i (.os (cs.set c m'))) oc bs) : CallOk P f args ls oc bs := by
  intro g w vs hL hR
  have hil := (List.getElem?_eq_some_iff.1 hl).1
  have hnm : nameOf bs i = CB + i := nameOf_is hbs
  have hlook : ∀ (j : Nat) (o : M), ls[j]? = some o → lookB (named bs ls) (nameOf bs j) = some o := fun j o hj => by
    have := namedFrom_of (bs := bs) (ls := ls) (n := 0) (i := j) (by omega) hj
    simpa [named] using this
  obtain ⟨hd, hβ, hbox⟩ := hL.bx _ _ (hlook i _ hl)
  obtain ⟨Q, F', hQ, hF', hrep⟩ := box_soft hbox hc ho hs
  let S : Dm := fun b j => open Classical in if Q b then w.cell? ⟨b, j, none⟩ else g.D b j
  have hS1 : ∀ x, Q x → ∀ j, S x j = w.cell? ⟨x, j, none⟩ := fun x hx j => by simp [S, hx]
  have hS2 : ∀ x, ¬ Q x → ∀ j, S x j = g.D x j := fun x hx j => by simp [S, hx]
  have hle : g.D.le S := fun b j u hu => by
    by_cases hb : Q b
    · rw [hS1 b hb]; exact hL.dw b j u hu
    · rw [hS2 b hb]; exact hu
  let φ' : Nat → Foot := fun k => if k = nameOf bs i then F' else g.φ k
  have hφ : ∀ k x, φ' k x → g.φ k x := fun k x hx => by
    simp only [φ'] at hx
    split at hx
    · rename_i e; subst e; exact (hF' x hx).1
    · exact hx
  have hget : ∀ (k : Nat) (o : M), lookB (named bs (ls.set i (.os (cs.set c m')))) k = some o → (k = nameOf bs i ∧ o = .os (cs.set c m')) ∨ (k ≠ nameOf bs i ∧ lookB (named bs ls) k = some o) := fun k o hk => by
    obtain ⟨j, hj, rfl⟩ := named_look hk
    rw [List.getElem?_set] at hj
    by_cases e : i = j
    · subst e
      simp only [if_true, hil] at hj
      cases hj
      exact .inl ⟨rfl, rfl⟩
    · rw [if_neg e] at hj
      have hjl := (List.getElem?_eq_some_iff.1 hj).1
      exact .inr ⟨fun e' => e (nameOf_inj (by omega) (by omega) e').symm, hlook j o hj⟩
  have hfoot : ∀ (k : Nat) (o : M), lookB (named bs (ls.set i (.os (cs.set c m')))) k = some o → ∃ o', lookB (named bs ls) k = some o' := fun k o hk => by
    rcases hget k o hk with ⟨rfl, _⟩ | ⟨_, h⟩
    · exact ⟨_, hlook i _ hl⟩
    · exact ⟨_, h⟩
  have hL1 : LInv ⟨S, g.β, φ'⟩ (named bs (ls.set i (.os (cs.set c m')))) w := by
    refine ⟨fun k o hk => ?_, fun k k' o o' b hk hk' h h' => ?_, fun b j u hu => ?_⟩
    · rcases hget k o hk with ⟨rfl, rfl⟩ | ⟨hne, hk⟩
      · have e : φ' (nameOf bs i) = F' := by simp [φ']
        refine ⟨hd, hβ, ?_⟩
        show BoxOk _ _ _ _ (φ' _)
        rw [e]
        exact hrep S φ' hle hS1 fun x hx => hS2 x (hF' x hx).2
      · obtain ⟨hd', h1, h2⟩ := hL.bx k o hk
        have e : φ' k = g.φ k := by simp [φ', hne]
        refine ⟨hd', h1, ?_⟩
        show BoxOk _ _ _ _ (φ' _)
        rw [e]
        exact h2.keep (g := g) (g' := ⟨S, g.β, φ'⟩) hle (fun _ _ _ h => h) fun x hx => ⟨rfl, hS2 x fun hq => hne (hL.sep _ _ _ _ x hk (hlook i _ hl) hx (hQ x hq))⟩
    · obtain ⟨_, h1⟩ := hfoot k o hk
      obtain ⟨_, h2⟩ := hfoot k' o' hk'
      exact hL.sep _ _ _ _ b h1 h2 (hφ _ b h) (hφ _ b h')
    · change S b j = some u at hu
      by_cases hb : Q b
      · rw [← hS1 b hb]; exact hu
      · rw [hS2 b hb] at hu; exact hL.dw b j u hu
  have hR1 : RepL ⟨S, g.β, φ'⟩ vs args := RepL.mono (g := g) (g' := ⟨S, g.β, φ'⟩) ⟨hle, fun _ _ h => h⟩ hR
  have hLX : ∀ b, LX ⟨S, g.β, φ'⟩ bs (ls.set i (.os (cs.set c m'))) b → LX g bs ls b := fun b ⟨k, o, hk, hr, hb⟩ => by
    obtain ⟨o', ho'⟩ := hfoot k o hk
    exact ⟨k, o', ho', hr, hφ _ b hb⟩
  have hcame : ∀ e w', Came ⟨S, g.β, φ'⟩ w (ls.set i (.os (cs.set c m'))) bs oc e w' → Came g w ls bs oc e w' := fun e w' ⟨g', hg, hoc⟩ => by
    refine ⟨g', ?_, ?_⟩
    · exact { D := Dm.le_trans hle hg.D
              inW := hg.inW
              β := hg.β
              box := fun j o hj hlt => hg.box j o hj (by simpa using hlt)
              src := fun j o b hj hlt hb => (hg.src j o b hj (by simpa using hlt) hb).imp_right (hLX b)
              dis := fun j j' o o' b hj hj' hlt hlt' => hg.dis j j' o o' b hj hj' (by simpa using hlt) (by simpa using hlt')
              dnew := fun b j u hu => by
                rcases hg.dnew b j u hu with h | h | h
                · change S b j = some u at h
                  by_cases hq : Q b
                  · exact .inr (.inr ⟨nameOf bs i, _, hlook i _ hl, by rw [hnm]; simp only [CB, RB]; omega, hQ b hq⟩)
                  · rw [hS2 b hq] at h; exact .inl h
                · exact .inr (.inl h)
                · exact .inr (.inr (hLX b h))
              below := ⟨hg.below.os, hg.below.tape, hg.below.output, hg.below.size, fun k hk hn => hg.below.block k hk fun h => hn (hLX k h)⟩ }
    · cases oc with
      | pan v => exact hoc
      | ret r =>
        obtain ⟨v, F, rfl, hr, hF, hap⟩ := hoc
        exact ⟨v, F, rfl, hr, fun b hb => (hF b hb).imp_right (hLX b), fun j o b hj hlt => hap j o b hj (by simpa using hlt)⟩
  rcases h _ w vs hL1 hR1 with ⟨h1, h2⟩ | ⟨v, w', h1, h2⟩
  · exact .inl ⟨h1, Calls.mono h2 hcame⟩
  · exact .inr ⟨v, w', h1, hcame _ _ h2⟩
def Ou.bk {α : Type} (bs : List Bk) : Ou α → List Bk
 | .ret _ => bs
 | .pan _ => bs.map fun _ => .gone
end Go.Bm
/- Builtins over elements of z cells. -/
namespace Go.Bm
variable {P : Program}
def over (cur : Array Value) (o : Nat) (cs : List Value) : Array Value := (cur.toList.take o ++ cs ++ cur.toList.drop (o + cs.length)).toArray
theorem run_copyZ (w : World) (dT sT ty elem : TypeId) (z g o dLen dCap : Nat) (a : Addr) (sLen sCap : Nat) (cur : Array Value) (t : TypeId) (cs : List Value) (m : Nat)
  (hu : P.underlying dT = some (.slice elem)) (hs : (P.info? elem).map (·.size) = some z) (hg : w.heap[g]? = some (.cells cur t (0, 0))) (hm : m = Nat.min sLen dLen) (hn : cs.length = m * z)
  (hsrc : ∀ j v, cs[j]? = some v → w.cell? (a.add j) = some v) (hfit : o + cs.length ≤ cur.size) (h1 : ∀ v ∈ cs, v.oneCell' = true) :
  (Builtin.copy_ #[dT, sT] ty #[.slice (some ⟨g, o, none⟩) dLen dCap, .slice (some a) sLen sCap]).run P w = .ok (goInt m) (w.setRow g (over cur o cs)) := by
 have hl := run_loadCells_list (P := P) w a cs hsrc
 have hst := run_storeCells_at P g o t cs 0 cur w hg (by simpa using hfit) h1
 cases hq : P.info? elem with
 | none => simp [hq] at hs
 | some i =>
  have hi : i.size = z := by simpa [hq] using hs
  rw [hn] at hl
  simp [Builtin.copy_, run_underlying hu, Builtin.lenOf, Builtin.firstCells, sizeOf, typeInfo, hq, hi, ← hm, hl, hst, over]
theorem run_clearZ (w : World) (t e ty ct : TypeId) (zv : Value) (ht : P.underlying t = some (.slice e)) (hv : ∀ w, (zeroValue e).run P w = .ok zv w) (g o n c : Nat) (hn : 0 < n) (cur : Array Value) (hg : w.heap[g]? = some (.cells cur ct (0, 0)))
  (hfit : o + (Builtin.zeroCells zv.cells n).size ≤ cur.size) (h1 : ∀ v ∈ (Builtin.zeroCells zv.cells n).toList, v.oneCell' = true) :
  (Builtin.clear_ #[t] ty #[.slice (some ⟨g, o, none⟩) n c]).run P w = .ok (.tuple #[]) (w.setRow g (over cur o (Builtin.zeroCells zv.cells n).toList)) := by
 have hst := run_storeCells_at P g o ct (Builtin.zeroCells zv.cells n).toList 0 cur w hg (by simpa using hfit) h1
 obtain ⟨m, rfl⟩ : ∃ m, n = m + 1 := ⟨n - 1, by omega⟩
 simp [Builtin.clear_, run_underlying ht, hv, hst, over]
end Go.Bm
namespace Go.Bm
open Go Go.Proofs
abbrev VM (v : V) : M := .agg [(.t (.s (.int .i64 v.k))), (.t (.s (.int .i64 v.i))), (.t (.f v.f)), (.t (.s (.string v.s))), (.t (.sl (V.rows v.l)))]
abbrev VC (v : V) : List T := [(.s (.int .i64 v.k)), (.s (.int .i64 v.i)), (.f v.f), (.s (.string v.s)), (.sl (V.rows v.l))]
abbrev tI (n : Int) : M := .t (.s (.int .i64 n))
abbrev tB (b : Bool) : M := .t (.s (.bool b))
abbrev tS (s : ByteArray) : M := .t (.s (.string s))
abbrev tF (f : Option Nat) : M := .t (.f f)
abbrev tL (l : List (List T)) : M := .t (.sl l)
abbrev sI (n : Int) : T := .s (.int .i64 n)
abbrev sB (b : Bool) : T := .s (.bool b)
abbrev sS (s : ByteArray) : T := .s (.string s)
abbrev rg (a b : List Nat) : Ev := .reg [] [] a b
abbrev b1 (a b : List Nat) : Ev := .bitK true [] a b
abbrev b0 (a b : List Nat) : Ev := .bitK false [] a b
abbrev rr (r : M) : O := .ret (.ret r) [] [] 0
abbrev bE : ByteArray := ByteArray.mk #[]
noncomputable abbrev TP : Program := Go.Proofs.Tryz.prog
theorem pn : ∀ p ∈ ([] : List Prop), p := ps_nil
theorem pc {q : Prop} {r : List Prop} (h : q) (k : ∀ p ∈ r, p) : ∀ p ∈ q :: r, p := ps_cons h k
theorem cn {P : Program} : CsOk P [] := cs_nil
theorem cc {P : Program} {f : FuncId} {xs ls : List M} {oc : Oc} {bs : List Bk} {r : Cs} (h : CallOk P f xs ls oc bs) (k : CsOk P r) : CsOk P ((f, xs, ls, oc, bs) :: r) := cs_cons h k
theorem co {P : Program} {f : FuncId} {fn : Func} {args ls : List M} {ks : List Bk} {es : List Ev} {oc : Oc} {bs : List Bk} {cs : Cs} {ps : List Prop} (hf : P.funcs[f]? = some fn)
  (hn : (fn.name == "runtime.NumGoroutine") = false) (h : runF P 99 fn args ls ks es = some ⟨oc, bs, cs, ps⟩) (hp : ∀ p ∈ ps, p) (hc : CsOk P cs) : CallOk P f args ls oc bs := callOk_of 99 hf hn h hp hc
theorem wo {c : Code} {st : St} {es : List Ev} {e : Exit} {s : St} {cs : Cs} {ps : List Prop}
  (h : run TP 99 c st es = some ⟨e, s, [], cs, ps⟩) (hp : ∀ p ∈ ps, p) (hc : CsOk TP cs) : W TP c st (One e s) := W.of_run (P := TP) 99 h hp hc
end Go.Bm
