import Derived.Test.YthgocpanlbmalaaGreatBmD
import Derived.Orders
set_option linter.unusedVariables false
set_option linter.unusedSimpArgs false
/- Regions whose operations may be done in other orders. -/
namespace Go.Bm
open Go.RowKit (Below)
def befs : List Oper → List (List Nat) → List (List Nat)
 | [], acc => acc
 | o :: r, acc => befs r (acc ++ [o.after.toList.foldr (fun e s => bif Region.binds .any e then e.on :: (acc.getD e.on [] ++ s) else s) []])
def disj (a b : List Nat) : Bool := a.all fun x => !memN x b
def Eff.chg (e : Eff) : List Nat := names e.new ++ (names e.put ++ e.del)
def Eff.no (ks : List Nat) (e : Eff) : Bool := ks.all fun k => !hasH k e.val && !bxH k e.new && !bxH k e.put
def offD (d : Option Nat) (l : List Nat) : Bool :=
 match d with
 | some d => !memN d l
 | none => true
def readsOf (ops : List Oper) (i : Nat) : List Nat := match ops[i]? with | some o => reads ops o | none => []
def indep (ops : List Oper) (j : Nat) (ej : Eff) (i : Nat) (ei : Eff) : Bool :=
 offD (dstOf ops j) (readsOf ops i) && offD (dstOf ops i) (readsOf ops j) && offD (dstOf ops j) (match dstOf ops i with | some d => [d] | none => []) &&
 disj ej.chg (ei.touch ++ ei.chg) && disj ei.chg (ej.touch ++ ej.chg) && ei.no (names ej.new) && ej.no (names ei.new)
def pairsOk (ops : List Oper) (bs : List (List Nat)) : List (Nat × Eff) → Bool
 | [] => true
 | (i, ei) :: r => (r.all fun (j, ej) => Nat.blt j i && disj (names ei.new) ej.chg && ej.no (names ei.new) && (memN j (bs.getD i []) || indep ops j ej i ei)) && pairsOk ops bs r
def app (ops : List Oper) (st : St) (i : Nat) (e : Eff) : St :=
 { n := st.n, sg := match dstOf ops i with | some d => (d, e.val) :: st.sg | none => st.sg, bx := e.bx st.bx }
def stOf (ops : List Oper) (st0 : St) : List (Nat × Eff) → St
 | [] => st0
 | (i, e) :: r => app ops (stOf ops st0 r) i e
structure RD where
 er : List (Nat × Eff)
 pn : Option (Nat × Eff)
 cs : List (FuncId × List M × List M × Oc × List Bk)
 ps : List Prop
def skipD (bs : List (List Nat)) (i : Nat) (pn : Option (Nat × Eff)) : Bool :=
 match pn with
 | some (p, _) => memN p (bs.getD i [])
 | none => false
def dstOkD (ops : List Oper) (st0 : St) (i : Nat) : Bool :=
 match dstOf ops i with
 | some d => Nat.blt d st0.n
 | none => true
def goD (P : Program) (ops : List Oper) (bs : List (List Nat)) (st0 : St) : List Nat → List (List O) → List (Nat × Eff) → Option (Nat × Eff) → Option RD
 | [], _, er, pn => some ⟨er, pn, [], []⟩
 | i :: r, oss, er, pn =>
  bif skipD bs i pn then goD P ops bs st0 r oss.tail er pn else
  match one P ops i (stOf ops st0 er).sg (lookB (stOf ops st0 er).bx) (oss.headD []) with
  | some x => match x.os with
   | [] => match x.eff.stop with
    | none => bif dstOkD ops st0 i then
      match goD P ops bs st0 r oss.tail ((i, x.eff) :: er) pn with
      | some y => some ⟨y.er, y.pn, x.cs ++ y.cs, x.ps ++ y.ps⟩
      | none => none
     else none
    | some _ => match pn with
     | none => match goD P ops bs st0 r oss.tail er (some (i, x.eff)) with
      | some y => some ⟨y.er, y.pn, x.cs ++ y.cs, x.ps ++ y.ps⟩
      | none => none
     | some _ => none
   | _ => none
  | none => none
def afterOk (ops : List Oper) : Bool :=
 ops.zipIdx.all fun (o, i) => o.after.toList.all (fun e => !Region.binds .any e || Nat.blt e.on i)
def pnOk (ops : List Oper) (bs : List (List Nat)) (er : List (Nat × Eff)) : Option (Nat × Eff) → Bool
 | none => true
 | some (p, ep) => (match ep.new with | [] => true | _ => false) && er.all fun (j, ej) => (match ej.put, ej.del with | [], [] => true | _, _ => false) && disj ej.chg (ep.touch ++ ep.chg) && ep.no (names ej.new) && (memN j (bs.getD p []) || (offD (dstOf ops j) (readsOf ops p)))
def manyD (P : Program) (ops : List Oper) (st0 : St) (oss : List (List O)) : Option RD :=
 let bs := befs ops []
 match goD P ops bs st0 (List.range ops.length) oss [] none with
 | some R => bif afterOk ops && pairsOk ops bs R.er && R.er.all (fun (_, e) => allFree st0 (names e.new) && distinct (names e.new)) && pnOk ops bs R.er R.pn then some R else none
 | none => none
structure Like (a b : St) : Prop where
 n : a.n = b.n
 s : ∀ t, look a.sg t = look b.sg t
 b : ∀ k, lookB a.bx k = lookB b.bx k
theorem Like.refl (a : St) : Like a a := ⟨rfl, fun _ => rfl, fun _ => rfl⟩
theorem Like.trans {a b c : St} (h : Like a b) (k : Like b c) : Like a c := ⟨h.n.trans k.n, fun t => (h.s t).trans (k.s t), fun q => (h.b q).trans (k.b q)⟩
theorem Like.symm {a b : St} (h : Like a b) : Like b a := ⟨h.n.symm, fun t => (h.s t).symm, fun k => (h.b k).symm⟩
theorem FInv.like {D0 : Dm} {w0 : World} {X : Foot} {DF : Env} {g : Gh} {st st' : St} {a : Act} {w : World} (h : FInv DF D0 w0 X g st a w) (hl : Like st st') : FInv DF D0 w0 X g st' a w :=
  { bx := fun k o hk => h.bx k o (by rw [hl.b]; exact hk), sep := fun k k' o o' b hk hk' => h.sep k k' o o' b (by rw [hl.b]; exact hk) (by rw [hl.b]; exact hk'), dw := h.dw,
    n := by rw [← hl.n]; exact h.n, sg := fun t => by rw [← hl.s]; exact h.sg t, new := fun k o b hk => h.new k o b (by rw [hl.b]; exact hk), d0 := h.d0, dnew := h.dnew, below := h.below, df := h.df, lb := h.lb }
theorem disj_spec {a b : List Nat} (h : disj a b = true) {x : Nat} (ha : x ∈ a) : x ∉ b := fun hb => by
 have := List.all_eq_true.1 h x ha
 rw [memN_of hb] at this; cases this
def effB (e : Eff) (k : Nat) (b : Option M) : Option M :=
 match lookB e.new k with
 | some o => some o
 | none => match lookB e.put k with
  | some o => some o
  | none => if k ∈ e.del then none else b
theorem app_bx (ops : List Oper) (st : St) (i : Nat) (e : Eff) (k : Nat) : lookB (app ops st i e).bx k = effB e k (lookB st.bx k) := eff_look e st.bx k
theorem app_sg (ops : List Oper) (st : St) (i : Nat) (e : Eff) (t : Nat) : look (app ops st i e).sg t = if dstOf ops i = some t then e.val else look st.sg t := by
 unfold app
 cases h : dstOf ops i with
 | none => simp
 | some d =>
  simp only [look]
  by_cases hd : d = t
  ·subst hd; simp
  ·rw [nbeq_of_ne hd]; simp [hd]
theorem effB_off {e : Eff} {k : Nat} (h : k ∉ e.chg) (b : Option M) : effB e k b = b := by
 unfold Eff.chg at h
 simp only [List.mem_append, not_or] at h
 unfold effB
 cases h1 : lookB e.new k with
 | some o => exact absurd (lookB_mem h1) h.1
 | none =>
  cases h2 : lookB e.put k with
  | some o => exact absurd (lookB_mem h2) h.2.1
  | none => simp [h.2.2]
theorem mem_lookB : ∀ {l : List (Nat × M)} {k : Nat}, k ∈ names l → ∃ o, lookB l k = some o
 | [], k, h => by simp [names] at h
 | (j, c) :: r, k, h => by
  simp only [lookB]
  cases e : Nat.beq j k with
  | true => exact ⟨c, rfl⟩
  | false =>
   have : k ∈ names r := by
    have := nbeq_f e
    simp only [names, List.map_cons, List.mem_cons] at h
    rcases h with rfl | h
    ·exact absurd rfl this
    ·exact h
   obtain ⟨o, ho⟩ := mem_lookB this
   exact ⟨o, by simpa using ho⟩
theorem effB_on {e : Eff} {k : Nat} (h : k ∈ e.chg) (b b' : Option M) : effB e k b = effB e k b' := by
 unfold Eff.chg at h
 simp only [List.mem_append] at h
 unfold effB
 cases h1 : lookB e.new k with
 | some o => rfl
 | none =>
  cases h2 : lookB e.put k with
  | some o => rfl
  | none =>
   have hd : k ∈ e.del := by
    rcases h with h | h | h
    ·obtain ⟨o, ho⟩ := mem_lookB h; rw [h1] at ho; cases ho
    ·obtain ⟨o, ho⟩ := mem_lookB h; rw [h2] at ho; cases ho
    ·exact h
   simp [hd]
theorem Like.app {ops : List Oper} {a b : St} (h : Like a b) (i : Nat) (e : Eff) : Like (app ops a i e) (app ops b i e) :=
 ⟨h.n, fun t => by rw [app_sg, app_sg, h.s t], fun k => by rw [app_bx, app_bx, h.b k]⟩
structure Indep (ops : List Oper) (j : Nat) (ej : Eff) (i : Nat) (ei : Eff) : Prop where
 dr : ∀ t, dstOf ops j = some t → t ∉ readsOf ops i
 rd : ∀ t, dstOf ops i = some t → t ∉ readsOf ops j
 dd : ∀ t, dstOf ops j = some t → dstOf ops i ≠ some t
 ct : ∀ k ∈ ej.chg, k ∉ ei.touch ∧ k ∉ ei.chg
 tc : ∀ k ∈ ei.chg, k ∉ ej.touch ∧ k ∉ ej.chg
 nj : ei.no (names ej.new) = true
 ni : ej.no (names ei.new) = true
theorem offD_spec {d : Option Nat} {l : List Nat} (h : offD d l = true) : ∀ t, d = some t → t ∉ l := fun t e hm => by
 subst e
 simp only [offD, Bool.not_eq_true'] at h
 rw [memN_of hm] at h; cases h
theorem indep_spec {ops : List Oper} {j : Nat} {ej : Eff} {i : Nat} {ei : Eff} (h : indep ops j ej i ei = true) : Indep ops j ej i ei := by
 simp only [indep, Bool.and_eq_true] at h
 obtain ⟨⟨⟨⟨⟨⟨h1, h2⟩, h3⟩, h4⟩, h5⟩, h6⟩, h7⟩ := h
 refine ⟨offD_spec h1, offD_spec h2, fun t e e' => ?_, fun k hk => ?_, fun k hk => ?_, h6, h7⟩
 ·rw [e'] at h3
  exact offD_spec h3 t e (by simp)
 ·have := disj_spec h4 hk
  simp only [List.mem_append, not_or] at this; exact this
 ·have := disj_spec h5 hk
  simp only [List.mem_append, not_or] at this; exact this
theorem Indep.symm {ops : List Oper} {j : Nat} {ej : Eff} {i : Nat} {ei : Eff} (h : Indep ops j ej i ei) : Indep ops i ei j ej :=
 ⟨h.rd, h.dr, fun t e e' => h.dd t e' e, h.tc, h.ct, h.ni, h.nj⟩
theorem app_swap {ops : List Oper} {j : Nat} {ej : Eff} {i : Nat} {ei : Eff} (h : Indep ops j ej i ei) (st : St) : Like (app ops (app ops st i ei) j ej) (app ops (app ops st j ej) i ei) := by
 refine ⟨rfl, fun t => ?_, fun k => ?_⟩
 ·rw [app_sg, app_sg, app_sg, app_sg]
  by_cases h1 : dstOf ops j = some t
  ·rw [if_pos h1, if_neg (h.dd t h1), if_pos h1]
  ·rw [if_neg h1, if_neg h1]
 ·rw [app_bx, app_bx, app_bx, app_bx]
  by_cases h1 : k ∈ ej.chg
  ·rw [effB_off (h.ct k h1).2 (lookB st.bx k), effB_off (h.ct k h1).2 (effB ej k (lookB st.bx k))]
  ·rw [effB_off h1, effB_off h1]
variable {ops : List Oper} {st0 : St}
theorem stOf_past {i : Nat} {ei : Eff} : ∀ (L2 L1 : List (Nat × Eff)), (∀ p ∈ L2, Indep ops p.1 p.2 i ei) → Like (stOf ops st0 (L2 ++ (i, ei) :: L1)) (app ops (stOf ops st0 (L2 ++ L1)) i ei)
 | [], L1, _ => Like.refl _
 | (j, ej) :: L2, L1, h => by
  have ih := stOf_past L2 L1 fun p hp => h p (List.mem_cons_of_mem _ hp)
  exact (ih.app j ej).trans (app_swap (h (j, ej) List.mem_cons_self) _)
theorem stOf_sg {t : Nat} {keep : Nat → Bool} : ∀ (L : List (Nat × Eff)), (∀ p ∈ L, keep p.1 = false → dstOf ops p.1 ≠ some t) → look (stOf ops st0 L).sg t = look (stOf ops st0 (L.filter fun p => keep p.1)).sg t
 | [], _ => rfl
 | (j, ej) :: L, h => by
  have ih := stOf_sg L fun p hp => h p (List.mem_cons_of_mem _ hp)
  simp only [stOf, List.filter_cons]
  rw [app_sg]
  cases e : keep j with
  | true =>
   simp only [if_true, stOf]
   rw [app_sg, ih]
  | false =>
   rw [if_neg (h (j, ej) List.mem_cons_self e)]
   simpa using ih
theorem stOf_bx {k : Nat} {keep : Nat → Bool} : ∀ (L : List (Nat × Eff)), (∀ p ∈ L, keep p.1 = false → k ∉ p.2.chg) → lookB (stOf ops st0 L).bx k = lookB (stOf ops st0 (L.filter fun p => keep p.1)).bx k
 | [], _ => rfl
 | (j, ej) :: L, h => by
  have ih := stOf_bx L fun p hp => h p (List.mem_cons_of_mem _ hp)
  simp only [stOf, List.filter_cons]
  rw [app_bx]
  cases e : keep j with
  | true =>
   simp only [if_true, stOf]
   rw [app_bx, ih]
  | false =>
   rw [effB_off (h (j, ej) List.mem_cons_self e)]
   simpa using ih
theorem no_spec {e : Eff} {ks : List Nat} (h : e.no ks = true) {k : Nat} (hk : k ∈ ks) : hasH k e.val = false ∧ bxH k e.new = false ∧ bxH k e.put = false := by
 have := List.all_eq_true.1 h k hk
 simp only [Bool.and_eq_true, Bool.not_eq_true'] at this
 exact ⟨this.1.1, this.1.2, this.2⟩
theorem FreeP.app {st : St} {k : Nat} (h : FreeP st k) {i : Nat} {e : Eff} (hc : k ∉ e.chg) (hn : hasH k e.val = false ∧ bxH k e.new = false ∧ bxH k e.put = false) : FreeP (app ops st i e) k := by
 refine ⟨h.lt, by rw [app_bx, effB_off hc]; exact h.b, fun t => ?_, fun q o hq => ?_⟩
 ·rw [app_sg]; split
  ·exact hn.1
  ·exact h.s t
 ·rw [app_bx] at hq
  unfold effB at hq
  split at hq
  ·rename_i o' ho; cases hq; exact bxH_look hn.2.1 q o ho
  ·split at hq
   ·rename_i o' ho; cases hq; exact bxH_look hn.2.2 q o ho
   ·split at hq
    ·cases hq
    ·exact h.x q o hq
theorem FreeP.stOf {k : Nat} (h : FreeP st0 k) : ∀ (L : List (Nat × Eff)), (∀ p ∈ L, k ∉ p.2.chg ∧ hasH k p.2.val = false ∧ bxH k p.2.new = false ∧ bxH k p.2.put = false) → FreeP (stOf ops st0 L) k
 | [], _ => h
 | (j, ej) :: L, hL => (FreeP.stOf h L fun p hp => hL p (List.mem_cons_of_mem _ hp)).app (hL (j, ej) List.mem_cons_self).1 (hL (j, ej) List.mem_cons_self).2
end Go.Bm
/- A region that is done in whatever order. -/
namespace Go.Bm
open Go.RowKit (Below)
theorem befs_old : ∀ (l : List Oper) (acc : List (List Nat)) (k : Nat), k < acc.length → (befs l acc).getD k [] = acc.getD k []
 | [], _, _, _ => rfl
 | o :: r, acc, k, h => by
  simp only [befs]
  rw [befs_old r _ k (by simp; omega)]
  simp only [List.getD_eq_getElem?_getD, List.getElem?_append_left h]
def befF (o : Oper) (acc : List (List Nat)) : List Nat := o.after.toList.foldr (fun e s => bif Region.binds .any e then e.on :: (acc.getD e.on [] ++ s) else s) []
theorem befs_at : ∀ (l : List Oper) (acc : List (List Nat)) (i : Nat) (o : Oper), l[i]? = some o → ∃ acc', (∀ k, k < acc.length + i → acc'.getD k [] = (befs l acc).getD k []) ∧ (befs l acc).getD (acc.length + i) [] = befF o acc'
 | [], _, i, o, h => by simp at h
 | x :: r, acc, 0, o, h => by
  simp at h
  subst h
  refine ⟨acc, fun k hk => ?_, ?_⟩
  ·rw [befs_old _ _ _ (by simpa using hk)]
  ·simp only [befs]
   rw [befs_old _ _ _ (by simp)]
   simp [befF]
 | x :: r, acc, i + 1, o, h => by
  simp at h
  obtain ⟨acc', h1, h2⟩ := befs_at r (acc ++ [befF x acc]) i o h
  refine ⟨acc', fun k hk => ?_, ?_⟩
  ·exact h1 k (by simp; omega)
  ·have : acc.length + (i + 1) = (acc ++ [befF x acc]).length + i := by simp; omega
   rw [this]
   exact h2
theorem mem_befF {o : Oper} {acc : List (List Nat)} {d : Nat} (h : d ∈ befF o acc) : ∃ e ∈ o.after.toList, Region.binds .any e = true ∧ (d = e.on ∨ d ∈ acc.getD e.on []) := by
 unfold befF at h
 generalize o.after.toList = l at h ⊢
 induction l with
 | nil => simp at h
 | cons e r ih =>
  simp only [List.foldr_cons] at h
  cases hb : Region.binds .any e with
  | false =>
   simp only [hb, cond_false] at h
   obtain ⟨e', he', h'⟩ := ih h
   exact ⟨e', by simp [he'], h'⟩
  | true =>
   simp only [hb, cond_true, List.mem_cons, List.mem_append] at h
   rcases h with h | h | h
   ·exact ⟨e, by simp, hb, .inl h⟩
   ·exact ⟨e, by simp, hb, .inr h⟩
   ·obtain ⟨e', he', h'⟩ := ih h
    exact ⟨e', by simp [he'], h'⟩
theorem afterOk_spec {ops : List Oper} (h : afterOk ops = true) {i : Nat} {o : Oper} (ho : ops[i]? = some o) : ∀ e ∈ o.after.toList, Region.binds .any e = true → e.on < i := by
 unfold afterOk at h
 have hm : (o, i) ∈ ops.zipIdx := List.mem_zipIdx_iff_getElem?.2 ho
 have := List.all_eq_true.1 h (o, i) hm
 intro e he hb
 have := List.all_eq_true.1 this e he
 rw [hb] at this
 simpa using this
theorem befs_lt {ops : List Oper} (h : afterOk ops = true) : ∀ (i : Nat) (j : Nat), i < ops.length → j ∈ (befs ops []).getD i [] → j < i := by
 intro i
 induction i using Nat.strongRecOn with
 | ind i ih =>
  intro j hi hj
  obtain ⟨acc', h1, h2⟩ := befs_at ops [] i _ (List.getElem?_eq_getElem hi)
  simp only [List.length_nil, Nat.zero_add] at h1 h2
  rw [h2] at hj
  obtain ⟨e, he, hb, hd⟩ := mem_befF hj
  have hlt := afterOk_spec h (List.getElem?_eq_getElem hi) e he hb
  rcases hd with rfl | hd
  ·exact hlt
  ·rw [h1 e.on hlt] at hd
   have := ih e.on hlt j (by omega) hd
   omega
section
variable {P : Program} {ops : List Oper} {st0 : St} {D0 : Dm} {w0 : World} {X : Foot} {DF : Env}
def RanAt (P : Program) (ops : List Oper) (st0 : St) (E1 : List (Nat × Eff)) (i : Nat) (e : Eff) : Prop :=
 ∃ os x, one P ops i (stOf ops st0 E1).sg (lookB (stOf ops st0 E1).bx) os = some x ∧ x.eff = e ∧ (∀ p ∈ x.ps, p) ∧ ∀ c ∈ x.cs, CallOk P c.1 c.2.1 c.2.2.1 c.2.2.2.1 c.2.2.2.2
structure Ran (P : Program) (ops : List Oper) (st0 : St) (er : List (Nat × Eff)) : Prop where
 at_ : ∀ E2 i e E1, er = E2 ++ (i, e) :: E1 → RanAt P ops st0 E1 i e ∧ e.stop = none ∧ ∀ d, dstOf ops i = some d → d < st0.n
 sort : er.Pairwise fun p q => q.1 < p.1
structure PRan (P : Program) (ops : List Oper) (st0 : St) (er : List (Nat × Eff)) (p : Nat) (ep : Eff) : Prop where
 ran : ∃ E2 E1, er = E2 ++ E1 ∧ (∀ q ∈ E2, p < q.1) ∧ (∀ q ∈ E1, q.1 < p) ∧ RanAt P ops st0 E1 p ep
 stop : ∃ v, ep.stop = some v
 lt : p < ops.length
theorem one_lt {i : Nat} {sg : List (Nat × M)} {bx : Nat → Option M} {os : List O} {x : Res} (h : one P ops i sg bx os = some x) : i < ops.length := by
 unfold one at h
 cases ho : ops[i]? with
 | none => rw [ho] at h; cases h
 | some o => exact (List.getElem?_eq_some_iff.1 ho).1
theorem goD_spec (bs : List (List Nat)) : ∀ (l : List Nat) (oss : List (List O)) (er : List (Nat × Eff)) (pn : Option (Nat × Eff)) (R : RD), goD P ops bs st0 l oss er pn = some R → l.Pairwise (· < ·) → (∀ q ∈ er, ∀ i ∈ l, q.1 < i) →
  Ran P ops st0 er → (∀ p ep, pn = some (p, ep) → PRan P ops st0 er p ep ∧ ∀ i ∈ l, p < i) → (∀ p ∈ R.ps, p) → (∀ c ∈ R.cs, CallOk P c.1 c.2.1 c.2.2.1 c.2.2.2.1 c.2.2.2.2) →
  (∃ E2, R.er = E2 ++ er) ∧ Ran P ops st0 R.er ∧ (∀ p ep, R.pn = some (p, ep) → PRan P ops st0 R.er p ep) ∧ (∀ q, pn = some q → R.pn = some q) ∧
  ∀ i ∈ l, (∃ e, (i, e) ∈ R.er) ∨ ∃ p ep, R.pn = some (p, ep) ∧ (i = p ∨ p ∈ bs.getD i [])
 | [], oss, er, pn, R, h, _, _, hr, hpn, _, _ => by
  simp only [goD, Option.some.injEq] at h
  subst h
  exact ⟨⟨[], rfl⟩, hr, fun p ep e => (hpn p ep e).1, fun q e => e, fun i hi => by cases hi⟩
 | i :: l, oss, er, pn, R, h, hs, hlt, hr, hpn, hp, hc => by
  obtain ⟨hs1, hs2⟩ := List.pairwise_cons.1 hs
  simp only [goD] at h
  cases hsk : skipD bs i pn with
  | true =>
   rw [hsk] at h
   simp only [cond_true] at h
   obtain ⟨h1, h2, h3, h4, h5⟩ := goD_spec bs l oss.tail er pn R h hs2 (fun q hq j hj => hlt q hq j (List.mem_cons_of_mem _ hj)) hr (fun p ep e => ⟨(hpn p ep e).1, fun j hj => (hpn p ep e).2 j (List.mem_cons_of_mem _ hj)⟩) hp hc
   refine ⟨h1, h2, h3, h4, fun j hj => ?_⟩
   rcases List.mem_cons.1 hj with rfl | hj
   ·cases pn with
    | none => cases hsk
    | some q => exact .inr ⟨q.1, q.2, h4 q rfl, .inr (memN_t hsk)⟩
   ·exact h5 j hj
  | false =>
   rw [hsk] at h
   simp only [cond_false] at h
   split at h
   case h_2 => cases h
   rename_i x hx
   split at h
   case h_2 => cases h
   split at h
   ·rename_i hst
    cases hd : dstOkD ops st0 i with
    | false => rw [hd] at h; cases h
    | true =>
     rw [hd] at h
     simp only [cond_true] at h
     split at h
     case h_2 => cases h
     rename_i y hy
     cases h
     have hran : RanAt P ops st0 er i x.eff := ⟨_, x, hx, rfl, fun p hm => hp p (List.mem_append_left _ hm), fun c hm => hc c (List.mem_append_left _ hm)⟩
     have hr' : Ran P ops st0 ((i, x.eff) :: er) := by
      refine ⟨fun E2 j e E1 he => ?_, List.pairwise_cons.2 ⟨fun q hq => hlt q hq i List.mem_cons_self, hr.sort⟩⟩
      cases E2 with
      | nil =>
       simp only [List.nil_append, List.cons.injEq, Prod.mk.injEq] at he
       obtain ⟨⟨rfl, rfl⟩, rfl⟩ := he
       refine ⟨hran, hst, fun d e => ?_⟩
       unfold dstOkD at hd
       rw [e] at hd
       exact Nat.le_of_ble_eq_true hd
      | cons q E2 =>
       simp only [List.cons_append, List.cons.injEq] at he
       exact hr.at_ E2 j e E1 he.2
     obtain ⟨⟨E2, h1⟩, h2, h3, h4, h5⟩ := goD_spec bs l oss.tail _ pn y hy hs2 (fun q hq j hj => by
       rcases List.mem_cons.1 hq with rfl | hq
       ·exact hs1 j hj
       ·exact hlt q hq j (List.mem_cons_of_mem _ hj)) hr' (fun p ep e => by
       obtain ⟨⟨⟨F2, F1, e1, e2, e3, e4⟩, e5, e6⟩, e7⟩ := hpn p ep e
       refine ⟨⟨⟨(i, x.eff) :: F2, F1, by rw [e1]; rfl, fun q hq => ?_, e3, e4⟩, e5, e6⟩, fun j hj => e7 j (List.mem_cons_of_mem _ hj)⟩
       rcases List.mem_cons.1 hq with rfl | hq
       ·exact e7 i List.mem_cons_self
       ·exact e2 q hq) (fun p hm => hp p (List.mem_append_right _ hm)) (fun c hm => hc c (List.mem_append_right _ hm))
     refine ⟨⟨E2 ++ [(i, x.eff)], by rw [h1]; simp⟩, h2, h3, h4, fun j hj => ?_⟩
     rcases List.mem_cons.1 hj with rfl | hj
     ·exact .inl ⟨x.eff, by rw [h1]; simp⟩
     ·exact h5 j hj
   ·rename_i v hst
    cases pn with
    | some q => cases h
    | none =>
     simp only at h
     split at h
     case h_2 => cases h
     rename_i y hy
     cases h
     have hran : RanAt P ops st0 er i x.eff := ⟨_, x, hx, rfl, fun p hm => hp p (List.mem_append_left _ hm), fun c hm => hc c (List.mem_append_left _ hm)⟩
     obtain ⟨h1, h2, h3, h4, h5⟩ := goD_spec bs l oss.tail er (some (i, x.eff)) y hy hs2 (fun q hq j hj => hlt q hq j (List.mem_cons_of_mem _ hj)) hr (fun p ep e => by
       cases e
       exact ⟨⟨⟨[], er, rfl, (fun q hq => by cases hq), (fun q hq => hlt q hq i List.mem_cons_self), hran⟩, ⟨v, hst⟩, one_lt hx⟩, hs1⟩) (fun p hm => hp p (List.mem_append_right _ hm)) (fun c hm => hc c (List.mem_append_right _ hm))
     refine ⟨h1, h2, h3, (fun q e => by cases e), fun j hj => ?_⟩
     rcases List.mem_cons.1 hj with rfl | hj
     ·exact .inr ⟨j, x.eff, h4 _ rfl, .inl rfl⟩
     ·exact h5 j hj
theorem pairs_spec {bs : List (List Nat)} : ∀ {er : List (Nat × Eff)}, pairsOk ops bs er = true → ∀ E2 i ei E1, er = E2 ++ (i, ei) :: E1 → ∀ j ej, (j, ej) ∈ E1 →
  j < i ∧ disj (names ei.new) ej.chg = true ∧ ej.no (names ei.new) = true ∧ (j ∈ bs.getD i [] ∨ Indep ops j ej i ei)
 | [], _, E2, i, ei, E1, he, _, _, _ => by simp at he
 | (k, ek) :: er, h, E2, i, ei, E1, he, j, ej, hj => by
  simp only [pairsOk, Bool.and_eq_true] at h
  cases E2 with
  | nil =>
   simp only [List.nil_append, List.cons.injEq, Prod.mk.injEq] at he
   obtain ⟨⟨rfl, rfl⟩, rfl⟩ := he
   have := List.all_eq_true.1 h.1 (j, ej) hj
   simp only [Bool.and_eq_true, Bool.or_eq_true] at this
   obtain ⟨⟨⟨h1, h2⟩, h3⟩, h4⟩ := this
   refine ⟨Nat.le_of_ble_eq_true h1, h2, h3, ?_⟩
   rcases h4 with h4 | h4
   ·exact .inl (memN_t h4)
   ·exact .inr (indep_spec h4)
  | cons q E2 =>
   simp only [List.cons_append, List.cons.injEq] at he
   exact pairs_spec h.2 E2 i ei E1 he.2 j ej hj
def done (l : Array Bool) (k : Nat) : Prop := l.getD k false = true
theorem filter_sub {er : List (Nat × Eff)} {f h : Nat → Bool} (hf : ∀ q ∈ er, h q.1 = true → f q.1 = true) : (er.filter fun q => f q.1).filter (fun q => h q.1) = er.filter fun q => h q.1 := by
 rw [List.filter_filter]
 refine List.filter_congr fun q hq => ?_
 cases e : h q.1 with
 | true => simp [hf q hq e]
 | false => simp
theorem ran_there {bs : List (List Nat)} {er : List (Nat × Eff)} {f : Nat → Bool} {E2 E1 : List (Nat × Eff)} {i : Nat} {ei : Eff} (he : er = E2 ++ E1) (hlt : ∀ q ∈ E2, i ≤ q.1) (hbl : ∀ j ∈ bs.getD i [], j < i)
  (hf : ∀ j ∈ bs.getD i [], f j = true) (hmeet : ∀ q ∈ er, q.1 ∉ bs.getD i [] → (f q.1 = true ∨ q ∈ E1) → (∀ t, dstOf ops q.1 = some t → t ∉ readsOf ops i) ∧ ∀ k ∈ q.2.chg, k ∉ ei.touch)
  (hr : RanAt P ops st0 E1 i ei) : RanAt P ops st0 (er.filter fun q => f q.1) i ei := by
 obtain ⟨os, x, hx, rfl, hp, hc⟩ := hr
 have hil := one_lt hx
 have e1 : (er.filter fun q => f q.1).filter (fun q => memN q.1 (bs.getD i [])) = E1.filter fun q => memN q.1 (bs.getD i []) := by
  rw [filter_sub (f := f) (h := fun j => memN j (bs.getD i [])) (fun q _ hq => hf q.1 (memN_t hq)), he, List.filter_append]
  have : E2.filter (fun q => memN q.1 (bs.getD i [])) = [] := List.filter_eq_nil_iff.2 fun q hq hm => by
   have := hlt q hq
   have := hbl q.1 (memN_t hm)
   omega
  rw [this, List.nil_append]
 refine ⟨os, x, one_congr (List.getElem?_eq_getElem hil) (sg := (stOf ops st0 E1).sg) (fun t ht => ?_) hx (fun k hk => ?_), rfl, hp, hc⟩
 ·have hro : t ∈ readsOf ops i := by simpa [readsOf, List.getElem?_eq_getElem hil] using ht
  rw [stOf_sg (keep := fun j => memN j (bs.getD i [])) E1 (fun q hq hk e => (hmeet q (by rw [he]; exact List.mem_append_right _ hq) (fun hm => by rw [memN_of hm] at hk; cases hk) (.inr hq)).1 t e hro),
   stOf_sg (keep := fun j => memN j (bs.getD i [])) (er.filter fun q => f q.1) (fun q hq hk e => (hmeet q (List.mem_filter.1 hq).1 (fun hm => by rw [memN_of hm] at hk; cases hk) (.inl (List.mem_filter.1 hq).2)).1 t e hro), e1]
 ·rw [stOf_bx (keep := fun j => memN j (bs.getD i [])) E1 (fun q hq hk' hm => (hmeet q (by rw [he]; exact List.mem_append_right _ hq) (fun hm => by rw [memN_of hm] at hk'; cases hk') (.inr hq)).2 k hm hk),
   stOf_bx (keep := fun j => memN j (bs.getD i [])) (er.filter fun q => f q.1) (fun q hq hk' hm => (hmeet q (List.mem_filter.1 hq).1 (fun hm => by rw [memN_of hm] at hk'; cases hk') (.inl (List.mem_filter.1 hq).2)).2 k hm hk), e1]
structure Drawn (P : Program) (ops : List Oper) (st0 : St) (er : List (Nat × Eff)) (pn : Option (Nat × Eff)) : Prop where
 ran : Ran P ops st0 er
 pran : ∀ p ep, pn = some (p, ep) → PRan P ops st0 er p ep
 all : ∀ i, i < ops.length → (∃ e, (i, e) ∈ er) ∨ ∃ p ep, pn = some (p, ep) ∧ (i = p ∨ p ∈ (befs ops []).getD i [])
 aft : afterOk ops = true
 pairs : pairsOk ops (befs ops []) er = true
 free : ∀ q ∈ er, ∀ k ∈ names q.2.new, FreeP st0 k
 pok : pnOk ops (befs ops []) er pn = true
theorem manyD_spec {oss : List (List O)} {R : RD} (h : manyD P ops st0 oss = some R) (hp : ∀ p ∈ R.ps, p) (hc : ∀ c ∈ R.cs, CallOk P c.1 c.2.1 c.2.2.1 c.2.2.2.1 c.2.2.2.2) : Drawn P ops st0 R.er R.pn := by
 unfold manyD at h
 simp only at h
 split at h
 case h_2 => cases h
 rename_i R' hR
 cases hb : afterOk ops && pairsOk ops (befs ops []) R'.er && R'.er.all (fun (_, e) => allFree st0 (names e.new) && distinct (names e.new)) && pnOk ops (befs ops []) R'.er R'.pn with
 | false => rw [hb] at h; cases h
 | true =>
  rw [hb] at h
  simp only [cond_true, Option.some.injEq] at h
  subst h
  simp only [Bool.and_eq_true] at hb
  obtain ⟨⟨⟨h1, h2⟩, h3⟩, h4⟩ := hb
  obtain ⟨_, h5, h6, _, h7⟩ := goD_spec (befs ops []) _ oss [] none R' hR List.pairwise_lt_range (fun q hq => by cases hq) ⟨fun E2 i e E1 he => by simp at he, List.Pairwise.nil⟩ (fun p ep e => by cases e) hp hc
  refine ⟨h5, h6, fun i hi => h7 i (List.mem_range.2 hi), h1, h2, fun q hq k hk => ?_, h4⟩
  have := List.all_eq_true.1 h3 q hq
  simp only [Bool.and_eq_true] at this
  exact free_P (allFree_of this.1 k hk)
theorem er_uniq {er : List (Nat × Eff)} (hs : er.Pairwise fun p q => q.1 < p.1) {E2 E1 : List (Nat × Eff)} {i : Nat} {ei : Eff} (he : er = E2 ++ (i, ei) :: E1) : (∀ q ∈ E2, i < q.1) ∧ ∀ q ∈ E1, q.1 < i := by
 subst he
 obtain ⟨_, h2, h3⟩ := List.pairwise_append.1 hs
 exact ⟨fun q hq => h3 q hq (i, ei) List.mem_cons_self, fun q hq => (List.pairwise_cons.1 h2).1 q hq⟩
variable {g : Gh} {a : Act} {w : World}
theorem filter_more {f : Nat → Bool} {i : Nat} (hf : f i = false) : ∀ {l : List Nat}, l.Nodup → i ∈ l → (l.filter fun j => if j = i then true else f j).length = (l.filter f).length + 1
 | x :: l, hn, hm => by
  obtain ⟨h1, h2⟩ := List.nodup_cons.1 hn
  simp only [List.filter_cons]
  by_cases e : x = i
  ·subst e
   have : (l.filter fun j => if j = x then true else f j) = l.filter f := List.filter_congr fun j hj => by
    have : j ≠ x := fun e => h1 (e ▸ hj)
    simp [this]
   simp only [if_true, hf, Bool.false_eq_true, if_false, List.length_cons, this]
  ·have hm' : i ∈ l := by
    rcases List.mem_cons.1 hm with h | h
    ·exact absurd h.symm e
    ·exact h
   have ih := filter_more hf h2 hm'
   cases hx : f x with
   | true => simp only [e, if_false, hx, if_true, List.length_cons]; rw [ih]
   | false => simpa [e, hx] using ih
theorem FInv.sub {st st' : St} {g : Gh} {a : Act} {w : World} (h : FInv DF D0 w0 X g st a w) (hn : st'.n = st.n) (hs : ∀ t, look st'.sg t = .any ∨ look st'.sg t = look st.sg t) (hb : ∀ k o, lookB st'.bx k = some o → lookB st.bx k = some o) : FInv DF D0 w0 X g st' a w :=
  { bx := fun k o hk => h.bx k o (hb k o hk), sep := fun k k' o o' b hk hk' => h.sep k k' o o' b (hb k o hk) (hb k' o' hk'), dw := h.dw,
    n := by rw [hn]; exact h.n, sg := fun t => by
      rcases hs t with e | e
      · rw [e]; exact .any _
      · rw [e]; exact h.sg t
    new := fun k o b hk => h.new k o b (hb k o hk), d0 := h.d0, dnew := h.dnew, below := h.below, df := h.df, lb := h.lb }
theorem stOf_old {k : Nat} {o : M} (hk : lookB st0.bx k = some o) : ∀ (L : List (Nat × Eff)), (∀ q ∈ L, q.2.put = [] ∧ q.2.del = [] ∧ ∀ j ∈ names q.2.new, FreeP st0 j) → lookB (stOf ops st0 L).bx k = some o
 | [], _ => hk
 | (i, e) :: L, h => by
  have ih := stOf_old hk L fun q hq => h q (List.mem_cons_of_mem _ hq)
  obtain ⟨h1, h2, h3⟩ := h (i, e) List.mem_cons_self
  simp only [stOf]
  rw [app_bx, effB_off, ih]
  unfold Eff.chg
  simp only at h1 h2
  rw [h1, h2]
  simp only [names, List.map_nil, List.append_nil]
  intro hm
  have := (h3 k hm).b
  rw [hk] at this; cases this
theorem stOf_n : ∀ (L : List (Nat × Eff)), (stOf ops st0 L).n = st0.n
 | [] => rfl
 | (i, e) :: L => stOf_n L
theorem Drawn.sim {er : List (Nat × Eff)} {pn : Option (Nat × Eff)} (hR : Drawn P ops st0 er pn) {Q : Exit → Act → World → Prop}
  (hK : pn = none → ∀ g' a' w', FInv DF D0 w0 X g' (stOf ops st0 er) a' w' → Q .normal a' w')
  (hQ : ∀ p ep v, pn = some (p, ep) → ep.stop = some v → ∀ g' a' w', FInv DF D0 w0 X g' ⟨st0.n, [], ep.bx st0.bx⟩ a' w' → Q (.panic [{ v := v, recovered := false }]) a' w') :
  ∀ (fuel : Nat) (listed : Array Bool) {g : Gh} {a : Act} {w : World}, fuel + ((List.range ops.length).filter fun i => listed.getD i false).length = ops.length → listed.size = ops.length →
   (∀ k, done listed k → (∃ e, (k, e) ∈ er) ∧ ∀ d ∈ (befs ops []).getD k [], done listed d) →
   FInv DF D0 w0 X g (stOf ops st0 (er.filter fun q => listed.getD q.1 false)) a w → wpAny P .any ops.toArray Q fuel listed a w := by
 have hready : ∀ (listed : Array Bool) (i : Nat), listed.size = ops.length → (i ∈ Region.ready .any ops.toArray listed ↔ i < ops.length ∧ ¬ done listed i ∧ ∀ o, ops[i]? = some o → ∀ e ∈ o.after.toList, Region.binds .any e = true → done listed e.on) := by
  intro listed i hsz
  unfold Region.ready
  simp only [List.mem_filter, List.mem_range, List.size_toArray, Bool.and_eq_true, Bool.not_eq_true']
  constructor
  ·rintro ⟨h1, h2, h3⟩
   refine ⟨h1, fun hd => ?_, fun o ho e he hb => ?_⟩
   ·unfold done at hd
    have hl : i < listed.size := by omega
    simp only [Array.getD, hl, dif_pos] at h2 hd
    rw [h2] at hd; cases hd
   ·simp only [List.getElem?_toArray, ho, Option.map_some, Option.getD_some] at h3
    have := (Array.all_eq_true_iff_forall_mem.1 h3) e (Array.mem_toList_iff.1 he)
    rw [hb] at this
    simpa [done] using this
  ·rintro ⟨h1, h2, h3⟩
   refine ⟨h1, ?_, ?_⟩
   ·unfold done at h2
    have hl : i < listed.size := by omega
    simp only [Array.getD, hl, dif_pos] at h2 ⊢
    simpa using h2
   ·simp only [List.getElem?_toArray, List.getElem?_eq_getElem h1, Option.map_some, Option.getD_some]
    refine Array.all_eq_true_iff_forall_mem.2 fun e he => ?_
    cases hb : Region.binds .any e with
    | false => rfl
    | true => simpa [done] using h3 _ (List.getElem?_eq_getElem h1) e (Array.mem_toList_iff.2 he) hb
 have hfin : ∀ (listed : Array Bool) {g : Gh} {a : Act} {w : World}, listed.size = ops.length → (∀ k, done listed k → (∃ e, (k, e) ∈ er) ∧ ∀ d ∈ (befs ops []).getD k [], done listed d) →
   FInv DF D0 w0 X g (stOf ops st0 (er.filter fun q => listed.getD q.1 false)) a w → Region.ready .any ops.toArray listed = [] → Q .normal a w := by
  intro listed g a w hsz hdn hF hnil
  -- all is done
  have hall : ∀ i, i < ops.length → done listed i := by
   intro i
   induction i using Nat.strongRecOn with
   | ind i ih =>
    intro hi
    refine Classical.byContradiction fun hnd => ?_
    have : i ∈ Region.ready .any ops.toArray listed := (hready listed i hsz).2 ⟨hi, hnd, fun o ho e he hb => by
     have := afterOk_spec hR.aft ho e he hb
     exact ih e.on this (by omega)⟩
    rw [hnil] at this; cases this
  have hpn : pn = none := by
   cases hpn : pn with
   | none => rfl
   | some q =>
    obtain ⟨p, ep⟩ := q
    have h1 := hR.pran p ep hpn
    obtain ⟨⟨e, he⟩, _⟩ := hdn p (hall p h1.lt)
    obtain ⟨F2, F1, e1, e2, e3, _⟩ := h1.ran
    rw [e1] at he
    rcases List.mem_append.1 he with he | he
    ·have := e2 _ he; simp at this
    ·have := e3 _ he; simp at this
  have hfe : (er.filter fun q => listed.getD q.1 false) = er := List.filter_eq_self.2 fun q hq => by
   obtain ⟨E1, E2, he⟩ := List.append_of_mem hq
   obtain ⟨⟨_, x, hx, _⟩, _⟩ := hR.ran.at_ E1 q.1 q.2 E2 he
   exact hall q.1 (one_lt hx)
  rw [hfe] at hF
  exact hK hpn _ _ _ hF
 intro fuel
 induction fuel with
 | zero =>
  intro listed g a w hfu hsz hdn hF
  have hnil : Region.ready .any ops.toArray listed = [] := by
   refine List.eq_nil_iff_forall_not_mem.2 fun i hi => ?_
   obtain ⟨h1, h2, _⟩ := (hready listed i hsz).1 hi
   have hle := List.length_filter_le (fun i => listed.getD i false) (List.range ops.length)
   have hlen : ((List.range ops.length).filter fun i => listed.getD i false).length = (List.range ops.length).length := by rw [List.length_range]; omega
   have := (List.length_filter_eq_length_iff.1 hlen) i (List.mem_range.2 h1)
   exact h2 this
  exact ⟨hnil, hfin listed hsz hdn hF hnil⟩
 | succ fuel ih =>
  intro listed g a w hfu hsz hdn hF
  refine ⟨fun hnil => hfin listed hsz hdn hF hnil, fun i hi => ?_⟩
  obtain ⟨hil, hnd, hpre⟩ := (hready listed i hsz).1 hi
  obtain ⟨acc', hacc, hat⟩ := befs_at ops [] i _ (List.getElem?_eq_getElem hil)
  simp only [List.length_nil, Nat.zero_add] at hacc hat
  have hbi : ∀ d ∈ (befs ops []).getD i [], done listed d := by
   intro d hd
   rw [hat] at hd
   obtain ⟨e, he, hb, h⟩ := mem_befF hd
   have hde := hpre _ (List.getElem?_eq_getElem hil) e he hb
   rcases h with rfl | h
   ·exact hde
   ·rw [hacc e.on (afterOk_spec hR.aft (List.getElem?_eq_getElem hil) e he hb)] at h
    exact (hdn e.on hde).2 d h
  have hbl : ∀ j ∈ (befs ops []).getD i [], j < i := fun j hj => befs_lt hR.aft i j hil hj
  -- of those that are done none comes behind i
  have hno : ∀ k, done listed k → i ∉ (befs ops []).getD k [] := fun k hk hm => hnd ((hdn k hk).2 i hm)
  rcases hR.all i hil with ⟨ei, hei⟩ | ⟨p, ep, hpn, hip⟩
  ·-- an operation that goes on
   obtain ⟨E2, E1, he⟩ := List.append_of_mem hei
   obtain ⟨hra, hst, hdst⟩ := hR.ran.at_ E2 i ei E1 he
   obtain ⟨hu2, hu1⟩ := er_uniq hR.ran.sort he
   have hpair : ∀ j ej, (j, ej) ∈ er → j ≠ i → (done listed j ∨ (j, ej) ∈ E1) → (j ∈ (befs ops []).getD i [] ∨ Indep ops j ej i ei) ∧ (∀ k ∈ names ei.new, k ∉ ej.chg ∧ hasH k ej.val = false ∧ bxH k ej.new = false ∧ bxH k ej.put = false) := by
    intro j ej hj hji hor
    rw [he] at hj
    rcases List.mem_append.1 hj with hj | hj
    ·-- behind i in the text
     obtain ⟨F2, F1, hf⟩ := List.append_of_mem hj
     have hdj : done listed j := by
      rcases hor with h | h
      ·exact h
      ·have := hu1 _ h; have := hu2 _ hj; simp only at *; omega
     have hs := pairs_spec hR.pairs F2 j ej (F1 ++ (i, ei) :: E1) (by rw [he, hf]; simp) i ei (by simp)
     have hin := hs.2.2.2.resolve_left (hno j hdj)
     exact ⟨.inr hin.symm, fun k hk => ⟨fun hm => (hin.ct k (by unfold Eff.chg; exact List.mem_append_left _ hk)).2 hm, no_spec hin.nj hk⟩⟩
    ·rcases List.mem_cons.1 hj with h | hj
     ·cases h; exact absurd rfl hji
     ·have hs := pairs_spec hR.pairs E2 i ei E1 he j ej hj
      exact ⟨hs.2.2.2, fun k hk => ⟨disj_spec hs.2.1 hk, no_spec hs.2.2.1 hk⟩⟩
   have hnot : ∀ q ∈ er, (listed.getD q.1 false = true ∨ q ∈ E1) → q.1 ≠ i := fun q hq hor e => by
    rcases hor with h | h
    ·exact hnd (by unfold done; rw [← e]; exact h)
    ·have := hu1 q h; omega
   obtain ⟨os, x, hx, hxe, hp, hc⟩ := ran_there (er := er) (f := fun j => listed.getD j false) (E2 := E2 ++ [(i, ei)]) (E1 := E1) (bs := befs ops []) (by rw [he]; simp) (fun q hq => by
     rcases List.mem_append.1 hq with hq | hq
     ·exact Nat.le_of_lt (hu2 q hq)
     ·simp at hq; rw [hq]; exact Nat.le_refl _) hbl hbi (fun q hq hnm hor => by
     have := ((hpair q.1 q.2 hq (hnot q hq hor) hor).1).resolve_left hnm
     exact ⟨this.dr, fun k hk => (this.ct k hk).1⟩) hra
   subst hxe
   have hfree : ∀ k ∈ names x.eff.new, FreeP (stOf ops st0 (er.filter fun q => listed.getD q.1 false)) k := fun k hk =>
    (hR.free _ hei k hk).stOf _ fun q hq => by
     obtain ⟨hq1, hq2⟩ := List.mem_filter.1 hq
     exact (hpair q.1 q.2 hq1 (hnot q hq1 (.inl hq2)) (.inl hq2)).2 k hk
   refine one_sim hF hx hfree hp hc (fun _ g' v w' hD => ?_) (fun v hv => by rw [hst] at hv; cases hv)
   have hF2 : FInv DF D0 w0 X g' (app ops (stOf ops st0 (er.filter fun q => listed.getD q.1 false)) i x.eff) (a.put (dstOf ops i) v) w' := by
    refine hF.doesP hfree rfl (fun k => rfl) ?_ hD
    cases hd : dstOf ops i with
    | none => exact .inl ⟨rfl, fun t => by rw [app_sg, hd]; simp⟩
    | some t => exact .inr ⟨t, rfl, by rw [stOf_n]; exact hdst t hd, fun q => by rw [app_sg, hd]; simp only [Option.some.injEq, look]; by_cases e : t = q <;> simp [e, nbeq_of_ne]⟩
   have hset : ∀ k, (listed.setIfInBounds i true).getD k false = if k = i then true else listed.getD k false := by
    intro k
    have hi' : i < listed.size := by omega
    simp only [Array.getD_eq_getD_getElem?, Array.getElem?_setIfInBounds]
    by_cases hki : i = k
    ·subst hki; simp [hi']
    ·have : k ≠ i := fun e => hki e.symm
     simp [hki, this]
   have hfalse : listed.getD i false = false := by simpa [done] using hnd
   refine ih (listed.setIfInBounds i true) ?_ (by simpa using hsz) (fun k hk => ?_) (hF2.like ?_)
   ·have := filter_more (f := fun j => listed.getD j false) hfalse List.nodup_range (List.mem_range.2 hil)
    have e : ((List.range ops.length).filter fun j => (listed.setIfInBounds i true).getD j false) = (List.range ops.length).filter fun j => if j = i then true else listed.getD j false := List.filter_congr fun j _ => hset j
    rw [e, this]; omega
   ·unfold done at hk
    rw [hset k] at hk
    have mono : ∀ d, done listed d → done (listed.setIfInBounds i true) d := fun d hd => by unfold done; rw [hset d]; split <;> first | rfl | exact hd
    by_cases e : k = i
    ·subst e; exact ⟨⟨_, hei⟩, fun d hd => mono d (hbi d hd)⟩
    ·rw [if_neg e] at hk
     exact ⟨(hdn k hk).1, fun d hd => mono d ((hdn k hk).2 d hd)⟩
   ·have n2 : ∀ q ∈ E2, q.1 ≠ i := fun q hq e => by have := hu2 q hq; omega
    have n1 : ∀ q ∈ E1, q.1 ≠ i := fun q hq e => by have := hu1 q hq; omega
    have e1 : (er.filter fun q => (listed.setIfInBounds i true).getD q.1 false) = (E2.filter fun q => listed.getD q.1 false) ++ (i, x.eff) :: (E1.filter fun q => listed.getD q.1 false) := by
     rw [he, List.filter_append, List.filter_cons]
     have : (listed.setIfInBounds i true).getD i false = true := by rw [hset i]; simp
     simp only [this, if_true]
     rw [List.filter_congr (q := fun q => listed.getD q.1 false) (fun q hq => by rw [hset q.1, if_neg (n2 q hq)]), List.filter_congr (l := E1) (q := fun q => listed.getD q.1 false) (fun q hq => by rw [hset q.1, if_neg (n1 q hq)])]
    have e2 : (er.filter fun q => listed.getD q.1 false) = (E2.filter fun q => listed.getD q.1 false) ++ (E1.filter fun q => listed.getD q.1 false) := by
     rw [he, List.filter_append, List.filter_cons]
     simp [hfalse]
    rw [e1, e2]
    refine (stOf_past _ _ fun q hq => ?_).symm
    obtain ⟨hq1, hq2⟩ := List.mem_filter.1 hq
    have hqe : q ∈ er := by rw [he]; exact List.mem_append_left _ hq1
    refine ((hpair q.1 q.2 hqe (n2 q hq1) (.inl hq2)).1).resolve_left fun hm => ?_
    have := hbl q.1 hm
    have := hu2 q hq1
    omega
  ·-- one that panics
   have hpr := hR.pran p ep hpn
   have hnp : ¬ done listed p := fun hd => by
    obtain ⟨⟨e, hm⟩, _⟩ := hdn p hd
    obtain ⟨F2, F1, e1, e2, e3, _⟩ := hpr.ran
    rw [e1] at hm
    rcases List.mem_append.1 hm with hm | hm
    ·have := e2 _ hm; simp at this
    ·have := e3 _ hm; simp at this
   rcases hip with rfl | hip
   case inr => exact absurd (hbi p hip) hnp
   obtain ⟨v, hv⟩ := hpr.stop
   have hpok := hR.pok
   rw [hpn] at hpok
   simp only [pnOk, Bool.and_eq_true] at hpok
   obtain ⟨hnew, hpall⟩ := hpok
   have hnew : ep.new = [] := by
    split at hnew
    ·assumption
    ·cases hnew
   have hq : ∀ q ∈ er, (q.2.put = [] ∧ q.2.del = []) ∧ (∀ k ∈ q.2.chg, k ∉ ep.touch ∧ k ∉ ep.chg) ∧ (q.1 ∈ (befs ops []).getD i [] ∨ ∀ t, dstOf ops q.1 = some t → t ∉ readsOf ops i) := fun q hq => by
    have := List.all_eq_true.1 hpall q hq
    simp only [Bool.and_eq_true, Bool.or_eq_true] at this
    obtain ⟨⟨⟨h1, h2⟩, _⟩, h4⟩ := this
    refine ⟨?_, fun k hk => ?_, ?_⟩
    ·split at h1
     ·exact ⟨by assumption, by assumption⟩
     ·cases h1
    ·have := disj_spec h2 hk
     simp only [List.mem_append, not_or] at this; exact this
    ·rcases h4 with h4 | h4
     ·exact .inl (memN_t h4)
     ·exact .inr (offD_spec h4)
   obtain ⟨F2, F1, hf, hf2, hf1, hra⟩ := hpr.ran
   obtain ⟨os, x, hx, hxe, hp, hc⟩ := ran_there (er := er) (f := fun j => listed.getD j false) (E2 := F2) (E1 := F1) (bs := befs ops []) hf (fun q hq => Nat.le_of_lt (hf2 q hq)) hbl hbi (fun q hqe hnm _ =>
     ⟨((hq q hqe).2.2).resolve_left hnm, fun k hk => ((hq q hqe).2.1 k hk).1⟩) hra
   subst hxe
   have hfree : ∀ k ∈ names x.eff.new, FreeP (stOf ops st0 (er.filter fun q => listed.getD q.1 false)) k := fun k hk => by rw [hnew] at hk; simp [names] at hk
   refine one_sim hF hx hfree hp hc (fun hn => by rw [hv] at hn; cases hn) (fun v' hv' g' u w' hD => ?_)
   rw [hv] at hv'
   cases hv'
   have hF2 : FInv DF D0 w0 X g' ⟨st0.n, (stOf ops st0 (er.filter fun q => listed.getD q.1 false)).sg, x.eff.bx (stOf ops st0 (er.filter fun q => listed.getD q.1 false)).bx⟩ (a.put none u) w' :=
    hF.doesP hfree (by rw [stOf_n]) (fun k => rfl) (.inl ⟨rfl, fun t => rfl⟩) hD
   refine hQ i x.eff v hpn hv g' a w' (hF2.sub rfl (fun t => .inl rfl) fun k o hk => ?_)
   show lookB (x.eff.bx (stOf ops st0 (er.filter fun q => listed.getD q.1 false)).bx) k = some o
   have hk' : effB x.eff k (lookB st0.bx k) = some o := by rw [← hk]; exact (eff_look x.eff st0.bx k).symm
   have hgoal : lookB (x.eff.bx (stOf ops st0 (er.filter fun q => listed.getD q.1 false)).bx) k = effB x.eff k (lookB (stOf ops st0 (er.filter fun q => listed.getD q.1 false)).bx k) := eff_look _ _ _
   rw [hgoal]
   by_cases hkc : k ∈ x.eff.chg
   ·rw [effB_on hkc _ (lookB st0.bx k)]; exact hk'
   ·rw [effB_off hkc] at hk' ⊢
    exact stOf_old hk' _ fun q hqf => by
     have hqe := (List.mem_filter.1 hqf).1
     exact ⟨(hq q hqe).1.1, (hq q hqe).1.2, fun j hj => hR.free q hqe j hj⟩
end
end Go.Bm
/- Steps of the bookkeeping alone: what is owned is opened, is shut; names; slices without room. -/
namespace Go.Bm
open Go.RowKit (Below)
def keepB (bx : List (Nat × M)) : List Nat → List (Nat × M)
 | [] => []
 | k :: r => match lookB bx k with
  | some o => (k, o) :: keepB bx r
  | none => keepB bx r
def St.keep (L B : List Nat) (st : St) : St :=
 { st with sg := L.map fun t => (t, look st.sg t), bx := keepB st.bx B }
inductive Gs where
 | keep (L B : List Nat)
 | tameT (t : Nat)
 | openS (k c j : Nat)
 | openE (k i c j : Nat) (cs : List M)
 | shutS (k c j : Nat)
 | shutE (k i c j : Nat) (cs : List M)
 | mv (a b : Nat)
 | armT (t d z : Nat)
 | armB (k c d z : Nat)
 | armO (k c d z : Nat)
 | armOT (t d z : Nat)
 | tame (k c : Nat)
 | comA (k : Nat) (ts : List (List T))
 | comS (k : Nat)
 | front (k d j : Nat)
 | drop (k : Nat)
def remN (k : Nat) : List Nat → List Nat
 | [] => []
 | x :: r => bif Nat.beq x k then remN k r else x :: remN k r
def whole (j : Nat) : M → M → Option (List Prop)
 | .ptr j' o, .os cs => bif Nat.beq j' j && Nat.beq o 0 && (match handless cs with | [] => true | _ => false) then some [] else none
 | .sb j' z lo n, .oa [] z' xs => bif Nat.beq j' j && Nat.beq lo 0 && Nat.beq z z' then some [n = xs.length] else none
 | .own j' _ _, .op _ _ => bif Nat.beq j' j then some [] else none
 | .mp j', .om [] _ => bif Nat.beq j' j then some [] else none
 | _, _ => none
mutual
def renH (a b : Nat) : M → M
 | .own k z xs => .own (bif Nat.beq k a then b else k) z xs
 | .ptr k o => .ptr (bif Nat.beq k a then b else k) o
 | .pe k i o => .pe (bif Nat.beq k a then b else k) i o
 | .sb k z lo n => .sb (bif Nat.beq k a then b else k) z lo n
 | .mp k => .mp (bif Nat.beq k a then b else k)
 | .agg cs => .agg (renHs a b cs)
 | .clo f cs => .clo f (renHs a b cs)
 | .tup cs => .tup (renHs a b cs)
 | .any => .any
 | .t x => .t x
 | .tight xs => .tight xs
 | .cp cs => .cp cs
 | .os cs => .os cs
 | .oa hs z xs => .oa hs z xs
 | .op z xs => .op z xs
 | .om hs es => .om hs es
def renHs (a b : Nat) : List M → List M
 | [] => []
 | m :: r => renH a b m :: renHs a b r
end
def renSg (a b : Nat) : List (Nat × M) → List (Nat × M)
 | [] => []
 | (t, m) :: r => (t, renH a b m) :: renSg a b r
def renBox (a b : Nat) : M → M
 | .os cs => .os (renHs a b cs)
 | m => m
def renBx (a b : Nat) : List (Nat × M) → List (Nat × M)
 | [] => []
 | (k, m) :: r => (bif Nat.beq k a then b else k, renBox a b m) :: renBx a b r
def noHs (a : Nat) : List (Nat × M) → Bool
 | [] => true
 | (_, m) :: r => (match m with | .oa hs _ _ => !memN a hs | .om hs _ => !memN a hs | _ => true) && noHs a r
mutual
def comH (k : Nat) (f : M → M) : M → M
 | .own j z xs => .own j z xs
 | .ptr j o => bif Nat.beq j k then f (.ptr j o) else .ptr j o
 | .pe j i o => bif Nat.beq j k then f (.pe j i o) else .pe j i o
 | .sb j z lo n => bif Nat.beq j k then f (.sb j z lo n) else .sb j z lo n
 | .mp j => .mp j
 | .agg cs => .agg (comHs k f cs)
 | .clo g cs => .clo g (comHs k f cs)
 | .tup cs => .tup (comHs k f cs)
 | .any => .any
 | .t x => .t x
 | .tight xs => .tight xs
 | .cp cs => .cp cs
 | .os cs => .os cs
 | .oa hs z xs => .oa hs z xs
 | .op z xs => .op z xs
 | .om hs es => .om hs es
def comHs (k : Nat) (f : M → M) : List M → List M
 | [] => []
 | m :: r => comH k f m :: comHs k f r
end
def comSg (k : Nat) (f : M → M) : List (Nat × M) → List (Nat × M)
 | [] => []
 | (t, m) :: r => (t, comH k f m) :: comSg k f r
def comBx (k : Nat) (f : M → M) : List (Nat × M) → List (Nat × M)
 | [] => []
 | (j, m) :: r => (j, match m with | .os cs => .os (comHs k f cs) | m => m) :: comBx k f r
def comAf (ts : List (List T)) : M → M
 | .sb _ _ lo _ => bif Nat.beq lo 0 then .t (.sl ts) else .any
 | _ => .any
def comSf (ts : List T) : M → M
 | .ptr _ o => .cp (ts.drop o)
 | _ => .any
def frontf (j : Nat) : M → M
 | .sb _ z _ n => .sb j z 0 n
 | _ => .any
def askA (n' : Nat) : M → List Prop
 | .sb _ _ lo n => bif Nat.beq lo 0 then [n = n'] else []
 | _ => []
def askF (d : Nat) : M → List Prop
 | .sb _ _ lo _ => [lo = d]
 | _ => []
mutual
def asks (k : Nat) (f : M → List Prop) : M → List Prop
 | .sb j z lo n => bif Nat.beq j k then f (.sb j z lo n) else []
 | .agg cs => askss k f cs
 | .clo _ cs => askss k f cs
 | .tup cs => askss k f cs
 | _ => []
def askss (k : Nat) (f : M → List Prop) : List M → List Prop
 | [] => []
 | m :: r => asks k f m ++ askss k f r
end
def askSg (k : Nat) (f : M → List Prop) : List (Nat × M) → List Prop
 | [] => []
 | (_, m) :: r => asks k f m ++ askSg k f r
def askBx (k : Nat) (f : M → List Prop) : List (Nat × M) → List Prop
 | [] => []
 | (_, m) :: r => (match m with | .os cs => askss k f cs | _ => []) ++ askBx k f r
def St.eff (st : St) (e : Eff) : Option St := st.does none e
def gh1 (st : St) : Gs → Option (St × List Prop)
 | .keep L B => some (st.keep L B, [])
 | .tameT t => match closeT (look st.sg t) with
  | some x => some ({ st with sg := (t, .t x) :: st.sg }, [])
  | none => none
 | .openS k c j => bif Nat.ble RB j || Nat.blt k RB then match lookB st.bx k with
  | some (.os cs) => match cs[c]? with
   | some m => bif isOwned m then match st.eff { val := .tup [], new := [(j, m)], put := [(k, .os (cs.set c (handleOf j m)))] } with
     | some st' => some (st', [])
     | none => none
    else none
   | none => none
  | _ => none else none
 | .openE k i c j cs => bif Nat.ble RB j || Nat.blt k RB then match lookB st.bx k with
  | some (.oa hs z xs) => match cs[c]? with
   | some m => bif isOwned m then match st.eff { val := .tup [], new := [(j, m)], put := [(k, .oa (j :: hs) z (xs.set i (cs.set c (handleOf j m))))] } with
     | some st' => some (st', [xs[i]? = some cs])
     | none => none
    else none
   | none => none
  | _ => none else none
 | .shutS k c j => bif !Nat.beq k j && (Nat.ble RB k || Nat.blt j RB) then match lookB st.bx k, lookB st.bx j with
  | some (.os cs), some m => match cs[c]? with
   | some h => match whole j h m with
    | some ps => match st.eff { val := .tup [], put := [(k, .os (cs.set c m))], del := [j] } with
     | some st' => some (st', ps)
     | none => none
    | none => none
   | none => none
  | _, _ => none else none
 | .shutE k i c j cs => bif !Nat.beq k j && (Nat.ble RB k || Nat.blt j RB) then match lookB st.bx k, lookB st.bx j with
  | some (.oa hs z xs), some m => match cs[c]? with
   | some h => match whole j h m with
    | some ps => match st.eff { val := .tup [], put := [(k, .oa (remN j hs) z (xs.set i (cs.set c m)))], del := [j] } with
     | some st' => some (st', (xs[i]? = some cs) :: (∀ ds, ds ∈ xs.set i (cs.set c m) → hasHs j ds = false) :: ps)
     | none => none
    | none => none
   | none => none
  | _, _ => none else none
 | .mv a b => bif free st b && !Nat.beq a b && noHs a st.bx && (Nat.ble RB b || Nat.blt a RB) then some ({ st with sg := renSg a b st.sg, bx := renBx a b st.bx }, []) else none
 | .armT t d z => match look st.sg t with
  | .tight xs => match st.eff { val := .tup [], new := [(d, .op z xs)] } with
   | some st' => some ({ st' with sg := (t, .own d z xs) :: st'.sg }, [])
   | none => none
  | _ => none
 | .armB k c d z => match lookB st.bx k with
  | some (.os cs) => match cs[c]? with
   | some (.tight xs) => match st.eff { val := .tup [], new := [(d, .op z xs)], put := [(k, .os (cs.set c (.own d z xs)))] } with
    | some st' => some (st', [])
    | none => none
   | _ => none
  | _ => none
 | .armO k c d z => match lookB st.bx k with
  | some (.os cs) => match cs[c]? with
   | some (.tight []) => match st.eff { val := .tup [], new := [(d, .oa [] z [])], put := [(k, .os (cs.set c (.sb d z 0 0)))] } with
    | some st' => some (st', [])
    | none => none
   | _ => none
  | _ => none
 | .armOT t d z => match look st.sg t with
  | .tight [] => match st.eff { val := .tup [], new := [(d, .oa [] z [])] } with
   | some st' => some ({ st' with sg := (t, .sb d z 0 0) :: st'.sg }, [])
   | none => none
  | _ => none
 | .tame k c => match lookB st.bx k with
  | some (.os cs) => match cs[c]? with
   | some m => match closeT m with
    | some x => match st.eff { val := .tup [], put := [(k, .os (cs.set c (.t x)))] } with
     | some st' => some (st', [])
     | none => none
    | none => none
   | none => none
  | _ => none
 | .comA k ts => bif Nat.blt k RB then match lookB st.bx k with
  | some (.oa [] _ xs) => bif noHs k st.bx then some ({ st with sg := comSg k (comAf ts) st.sg, bx := comBx k (comAf ts) (dropB k st.bx) }, (xs = rowsT ts) :: (askSg k (askA ts.length) st.sg ++ askBx k (askA ts.length) (dropB k st.bx))) else none
  | _ => none else none
 | .comS k => bif Nat.blt k RB then match lookB st.bx k with
  | some (.os cs) => match closeTs cs with
   | some ts => bif noHs k st.bx then some ({ st with sg := comSg k (comSf ts) st.sg, bx := comBx k (comSf ts) (dropB k st.bx) }, []) else none
   | none => none
  | _ => none else none
 | .front k d j => bif free st j && noHs k st.bx && (Nat.ble RB j || Nat.blt k RB) && !Nat.beq j k then match lookB st.bx k with
  | some (.oa hs z xs) => some ({ st with sg := comSg k (frontf j) st.sg, bx := (j, .oa hs z (xs.drop d)) :: comBx k (frontf j) (dropB k st.bx) },
    (d ≤ xs.length) :: (askSg k (askF d) st.sg ++ askBx k (askF d) (dropB k st.bx)))
  | _ => none else none
 | .drop k => some ({ st with bx := dropB k st.bx }, [])
def ghs (st : St) : List Gs → Option (St × List Prop)
 | [] => some (st, [])
 | x :: r => match gh1 st x with
  | some (st', ps) => match ghs st' r with
   | some (st'', qs) => some (st'', ps ++ qs)
   | none => none
  | none => none
section
variable {D0 : Dm} {w0 : World} {X : Foot} {DF : Env} {g : Gh} {st st' : St} {a : Act} {w : World}
theorem RepM.closed {v : Value} {m : M} (h : RepM g v m) (hm : ∀ k, hasH k m = false) : RepM (Gh.of g.D) v m :=
 h.turn (g := g) (g' := Gh.of g.D) (Dm.le_refl g.D) fun k hk => by rw [hm k] at hk; cases hk
theorem hasHs_nil {cs : List M} (h : handless cs = []) : ∀ k, hasHs k cs = false := fun k => by
 cases e : hasHs k cs with
 | false => rfl
 | true => have := handless_hasHs e; rw [h] at this; cases this
theorem OwC.own {m : M} {v : Value} {F : Foot} (h : OwC g w m v F) (hm : ∀ k, hasH k m = false) : OwN g.D w m v F := by
 rcases h with h | ⟨h, hF⟩
 ·exact h
 ·exact .leaf m v F (h.closed hm) hF
theorem whole_own {hd : Hd} {F : Foot} {m h : M} {v : Value} {j : Nat} {ps : List Prop} (hb : BoxOk g w m hd F) (hβ : g.β j = some hd) (hr : RepM g v h) (hw : whole j h m = some ps) (hp : ∀ p ∈ ps, p) : ∃ F', (∀ x, F' x → F x) ∧ OwN g.D w m v F' := by
 unfold whole at hw
 split at hw
 ·rename_i j' o cs
  cases h1 : Nat.beq j' j && Nat.beq o 0 && (match handless cs with | [] => true | _ => false) with
  | false => rw [h1] at hw; cases hw
  | true =>
   simp only [Bool.and_eq_true] at h1
   have e1 := nbeq_t h1.1.1
   have e2 := nbeq_t h1.1.2
   subst e1 e2
   have hnil : handless cs = [] := by
    have := h1.2
    split at this
    ·assumption
    ·cases this
   obtain ⟨b, rfl, hb'⟩ := hr.ptr_inv
   rw [hβ] at hb'; cases hb'
   cases hb with
   | os b ty vs cs A F hl hb hd hA hdis hF h =>
    exact ⟨F, fun _ h => h, .os b ty vs cs A F hl hb hd hA hdis hF fun j v c hv hc => (h j v c hv hc).own fun k => by
     cases e : hasH k c with
     | false => rfl
     | true => have := hasHs_of hc e; rw [hasHs_nil hnil k] at this; cases this⟩
 ·rename_i j' z lo n z' xs
  cases h1 : Nat.beq j' j && Nat.beq lo 0 && Nat.beq z z' with
  | false => rw [h1] at hw; cases hw
  | true =>
   rw [h1] at hw
   simp only [Bool.and_eq_true] at h1
   have e1 := nbeq_t h1.1.1
   have e2 := nbeq_t h1.1.2
   have e3 := nbeq_t h1.2
   subst e1 e2 e3
   simp only [cond_true, Option.some.injEq] at hw
   subst hw
   have hn : n = xs.length := hp _ (by simp)
   rcases hr.sb_form with ⟨b, o, c, hb', he, hle⟩ | ⟨a', q, b, o, hb', he, hn0⟩ | ⟨c, hb', he, _, hn0⟩
   ·rw [hβ] at hb'; cases hb'
    subst he
    cases hb with
    | oae a q z hs F hF =>
     have : n = 0 := by omega
     subst this
     exact ⟨F, fun _ h => h, by simpa using OwN.oae (D := g.D) (w := w) b (o + 0 * z) z F hF⟩
    | oa b o c z hs' cur ty xs A F hb hd hs h1c h0 hc hz hA hdis hF h =>
     subst hn
     have := OwN.oa (D := g.D) (w := w) b o c z cur ty xs A F hb hd hs h1c h0 hc hz hA hdis hF fun i j cs c' v h1 h2 h3 => (by
      rcases h i j cs c' v h1 h2 h3 with h | ⟨h, hF⟩
      ·exact h
      ·exact .leaf c' v _ (h.turn (g := g.only []) (g' := Gh.of g.D) (Dm.le_refl g.D) fun k _ b hb => by simp [Gh.only, memN] at hb) hF)
     exact ⟨F, fun _ h => h, by simpa using this⟩
   ·rw [hβ] at hb'; cases hb'
    subst he
    have hx : xs = [] := List.eq_nil_of_length_eq_zero (by omega)
    subst hx
    exact ⟨fun _ => False, fun _ h => h.elim, .oae _ _ z _ fun _ h => h⟩
   ·rw [hβ] at hb'; cases hb'
    subst he
    cases hb with
    | oa0 z c hs F hF => exact ⟨F, fun _ h => h, .oa0 z F hF⟩
 ·rename_i j' z xs z' xs'
  cases h1 : Nat.beq j' j with
  | false => rw [h1] at hw; cases hw
  | true =>
   have e1 := nbeq_t h1
   subst e1
   have hb' := hr.own_inv.2
   rw [hβ] at hb'; cases hb'
   cases hb with
   | op v z xs F h ho => exact ⟨F, fun _ h => h, .op _ _ _ F h ho⟩
 ·rename_i j' es
  cases h1 : Nat.beq j' j with
  | false => rw [h1] at hw; cases hw
  | true =>
   have e1 := nbeq_t h1
   subst e1
   cases hr with
   | mp b _ hb' =>
    rw [hβ] at hb'; cases hb'
    cases hb with
    | om b clock hs entries es A F hl hb hd hA hdis hF hk h =>
     refine ⟨F, fun _ h => h, .om b clock entries es A F hl hb hd hA hdis hF hk fun i e kv h1 h2 => ?_⟩
     ·rcases h i e kv h1 h2 with h | ⟨h, hF⟩
      ·exact h
      ·exact .leaf kv.2 e.val _ (h.turn (g := g.only []) (g' := Gh.of g.D) (Dm.le_refl g.D) fun k _ b hb => by simp [Gh.only, memN] at hb) hF
 ·cases hw
theorem Does.ghost (h : FInv DF D0 w0 X g st a w) {e : Eff} {g' : Gh} (hD : g'.D = g.D) (hβ : ∀ k, k ∉ names e.new → g'.β k = g.β k) (hv : e.val = .tup [])
  (hbox : ∀ k o, (lookB e.new k = some o ∨ (lookB e.new k = none ∧ lookB e.put k = some o)) → ∃ h, g'.β k = some h ∧ BoxOk g' w o h (g'.φ k))
  (hkeep : ∀ k o, lookB st.bx k = some o → k ∉ e.del → k ∉ names e.put → k ∉ names e.new → g'.φ k = g.φ k)
  (hsrc : ∀ k b, k ∈ names e.new ∨ k ∈ names e.put → g'.φ k b → ∃ k0 o0, lookB st.bx k0 = some o0 ∧ (k0 ∈ e.del ∨ k0 ∈ names e.put) ∧ (k < RB → k0 < RB) ∧ g.φ k0 b)
  (hdis : ∀ k k' b, (k ∈ names e.new ∨ k ∈ names e.put) → (k' ∈ names e.new ∨ k' ∈ names e.put) → g'.φ k b → g'.φ k' b → k = k') : Does w0 X D0 g st.bx w e g' undef w where
 D := hD ▸ Dm.le_refl _
 inW := hD ▸ h.dw
 β := hβ
 val := by rw [hv]; exact .tup [] [] rfl (fun j v c h => by simp at h)
 box := hbox
 keep := fun k o h1 h2 h3 h4 => ⟨hkeep k o h1 h2 h3 h4, fun x hx => ⟨rfl, fun j => by rw [hD]⟩⟩
 src := fun k b hk hb => .inr (hsrc k b hk hb)
 dis := hdis
 dnew := fun b j u hu => h.dnew b j u (by rw [← hD]; exact hu)
 below := h.below
theorem set_get {α : Type} {l : List α} {c : Nat} {x : α} (j : Nat) (hc : c < l.length) : (l.set c x)[j]? = if j = c then some x else l[j]? := by
 by_cases e : j = c
 ·subst e; rw [if_pos rfl, List.getElem?_set_self hc]
 ·rw [if_neg e, List.getElem?_set_ne (fun e' => e e'.symm)]
theorem eff_sim (h : FInv DF D0 w0 X g st a w) {e : Eff} (hs : st.eff e = some st') {g' : Gh} (hD : Does w0 X D0 g st.bx w e g' undef w) : FInv DF D0 w0 X g' st' a w := h.does (d := none) hs hD
theorem OwC.owned {m : M} {v : Value} {F : Foot} (ho : isOwned m = true) (h : OwC g w m v F) : OwN g.D w m v F := by
 rcases h with h | ⟨h, _⟩
 ·exact h
 ·exfalso; cases h <;> simp [isOwned] at ho
theorem openS_sim (h : FInv DF D0 w0 X g st a w) {k c j : Nat} {cs : List M} {m : M} (hrb : Nat.ble RB j || Nat.blt k RB) (hk : lookB st.bx k = some (.os cs)) (hc : cs[c]? = some m) (ho : isOwned m = true)
  (hs : st.eff { val := .tup [], new := [(j, m)], put := [(k, .os (cs.set c (handleOf j m)))] } = some st') : ∃ g', FInv DF D0 w0 X g' st' a w := by
 have hf := free_P ((does_spec hs).1 j (by simp [names]))
 have hkj : k ≠ j := fun e => by subst e; rw [hf.b] at hk; cases hk
 obtain ⟨hd, hβ, hok⟩ := h.bx k _ hk
 generalize hφ : g.φ k = F at hok
 cases hok with
 | os b ty vs cs A F hl hb hdf hA hdis hF hr =>
  have hcl := (List.getElem?_eq_some_iff.1 hc).1
  have hvc := List.getElem?_eq_getElem (show c < vs.length by omega)
  have hown := OwC.owned ho (hr c _ m hvc hc)
  obtain ⟨hj, hjb, hjv⟩ := hown.box ho
  let g' : Gh := ⟨g.D, fun q => if q = j then some hj else g.β q, fun q => if q = j then A c else if q = k then (fun x => x = b ∨ ∃ i, i ≠ c ∧ A i x) else g.φ q⟩
  have hle : ∀ q, q ≠ j → ∀ b, g.β q = some b → g'.β q = some b := fun q hq b hb => by show (if q = j then _ else _) = _; rw [if_neg hq]; exact hb
  have e1 : g'.φ j = A c := by show (if j = j then _ else _) = _; rw [if_pos rfl]
  have e2 : g'.φ k = fun x => x = b ∨ ∃ i, i ≠ c ∧ A i x := by show (if k = j then _ else if k = k then _ else _) = _; rw [if_neg hkj, if_pos rfl]
  have e3 : g'.β j = some hj := by show (if j = j then _ else _) = _; rw [if_pos rfl]
  refine ⟨g', eff_sim h hs (Does.ghost h rfl (fun q hq => ?_) rfl (fun q o hq => ?_) (fun q o hq _ hp hn => ?_) (fun q x hq hx => ?_) (fun q q' x hq hq' hx hx' => ?_))⟩
  ·have : q ≠ j := fun e => by subst e; simp [names] at hq
   show (if q = j then _ else _) = _; rw [if_neg this]
  ·simp only [lookB] at hq
   rcases hq with hq | ⟨hq0, hq⟩
   ·cases e : Nat.beq j q with
    | false => rw [e] at hq; cases hq
    | true =>
     rw [e] at hq; cases hq
     have := nbeq_t e; subst this
     exact ⟨hj, e3, by rw [e1]; exact hjb g' rfl⟩
   ·cases e : Nat.beq k q with
    | false => rw [e] at hq; cases hq
    | true =>
     rw [e] at hq; cases hq
     have := nbeq_t e; subst this
     refine ⟨.p b, hle k hkj _ hβ, ?_⟩
     rw [e2]
     refine .os b ty vs (cs.set c (handleOf j m)) (fun i x => i ≠ c ∧ A i x) _ (by simpa using hl) hb hdf (fun i x hx => by simpa using hA i x hx.2) (fun i i' x hx hx' => hdis i i' x hx.2 hx'.2) (fun x => Iff.rfl) fun i v d hv hd => ?_
     rw [set_get i hcl] at hd
     by_cases e : i = c
     ·subst e
      rw [if_pos rfl] at hd
      cases hd
      rw [hvc] at hv
      cases hv
      exact .inr ⟨hjv g' j (Dm.le_refl _) e3, fun x hx => hx.1 rfl⟩
     ·rw [if_neg e] at hd
      refine ((hr i v d hv hd).keep (g' := g') (Dm.le_refl _) (fun q hq b' hb' => hle q (fun e => by subst e; have := hf.x k _ hk; simp only [boxH] at this; rw [hasHs_of hd hq] at this; cases this) b' hb') (keep_refl _ _ _)).imp (fun h => h.foot fun x => ?_) (fun h => ⟨h.1, fun x hx => h.2 x hx.2⟩)
      simp [e]
  ·have h1 : q ≠ j := fun e => by subst e; simp [names] at hn
   have h2 : q ≠ k := fun e => by subst e; simp [names] at hp
   show (if q = j then _ else if q = k then _ else _) = _; rw [if_neg h1, if_neg h2]
  ·refine ⟨k, _, hk, .inr (by simp [names]), fun hq' => ?_, ?_⟩
   ·rcases hq with hq | hq
    ·simp [names] at hq
     subst hq
     simp only [Bool.or_eq_true] at hrb
     rcases hrb with h1 | h1
     ·have := Nat.le_of_ble_eq_true h1; omega
     ·exact Nat.le_of_ble_eq_true h1
    ·simp [names] at hq; subst hq; exact hq'
   ·rw [hφ]
    rcases hq with hq | hq
    ·simp [names] at hq; subst hq
     rw [e1] at hx
     exact (hF x).2 (.inr ⟨c, hx⟩)
    ·simp [names] at hq; subst hq
     rw [e2] at hx
     rcases hx with hx | ⟨i, _, hx⟩
     ·exact (hF x).2 (.inl hx)
     ·exact (hF x).2 (.inr ⟨i, hx⟩)
  ·simp [names] at hq hq'
   have cross : g'.φ j x → g'.φ k x → False := fun h1 h2 => by
    rw [e1] at h1
    rw [e2] at h2
    rcases h2 with h2 | ⟨i, hi, h2⟩
    ·exact (hA c x h1).2 h2
    ·exact hi (hdis i c x h2 h1)
   rcases hq with rfl | rfl <;> rcases hq' with rfl | rfl
   ·rfl
   ·exact (cross hx hx').elim
   ·exact (cross hx' hx).elim
   ·rfl
theorem openE_sim (h : FInv DF D0 w0 X g st a w) {k i c j z : Nat} {hs : List Nat} {xs : List (List M)} {cs : List M} {m : M} (hrb : Nat.ble RB j || Nat.blt k RB) (hk : lookB st.bx k = some (.oa hs z xs)) (hi : xs[i]? = some cs) (hc : cs[c]? = some m) (ho : isOwned m = true)
  (hs' : st.eff { val := .tup [], new := [(j, m)], put := [(k, .oa (j :: hs) z (xs.set i (cs.set c (handleOf j m))))] } = some st') : ∃ g', FInv DF D0 w0 X g' st' a w := by
 have hf := free_P ((does_spec hs').1 j (by simp [names]))
 have hkj : k ≠ j := fun e => by subst e; rw [hf.b] at hk; cases hk
 obtain ⟨hd, hβ, hok⟩ := h.bx k _ hk
 generalize hφ : g.φ k = F at hok
 have hnh : ∀ q, memN q hs = true → q ≠ j := fun q hq e => by
  subst e
  have := hf.x k _ hk
  simp only [boxH] at this
  rw [hq] at this; cases this
 cases hok with
 | oa0 => simp at hi
 | oae => simp at hi
 | oa b o cap _ _ cur ty _ A F hb hdf hsz h1c h0 hcc hz hA hdis hF hr =>
  have hil := (List.getElem?_eq_some_iff.1 hi).1
  have hcl := (List.getElem?_eq_some_iff.1 hc).1
  have hzl := hz i cs hi
  have hlt : o + (i * z + c) < cur.size := by
   have : (i + 1) * z ≤ cap * z := Nat.mul_le_mul_right z (by omega)
   rw [Nat.add_mul] at this; omega
  have hvc := Array.getElem?_eq_getElem hlt
  have hown := OwC.owned ho (hr i c cs m _ hi hc hvc)
  obtain ⟨hj, hjb, hjv⟩ := hown.box ho
  let g' : Gh := ⟨g.D, fun q => if q = j then some hj else g.β q, fun q => if q = j then A i c else if q = k then (fun x => x = b ∨ ∃ i' c', ¬ (i' = i ∧ c' = c) ∧ A i' c' x) else g.φ q⟩
  have hle : ∀ q, q ≠ j → ∀ b, g.β q = some b → g'.β q = some b := fun q hq b hb => by show (if q = j then _ else _) = _; rw [if_neg hq]; exact hb
  have e1 : g'.φ j = A i c := by show (if j = j then _ else _) = _; rw [if_pos rfl]
  have e2 : g'.φ k = fun x => x = b ∨ ∃ i' c', ¬ (i' = i ∧ c' = c) ∧ A i' c' x := by show (if k = j then _ else if k = k then _ else _) = _; rw [if_neg hkj, if_pos rfl]
  have e3 : g'.β j = some hj := by show (if j = j then _ else _) = _; rw [if_pos rfl]
  refine ⟨g', eff_sim h hs' (Does.ghost h rfl (fun q hq => ?_) rfl (fun q o hq => ?_) (fun q o hq _ hp hn => ?_) (fun q x hq hx => ?_) (fun q q' x hq hq' hx hx' => ?_))⟩
  ·have : q ≠ j := fun e => by subst e; simp [names] at hq
   show (if q = j then _ else _) = _; rw [if_neg this]
  ·simp only [lookB] at hq
   rcases hq with hq | ⟨hq0, hq⟩
   ·cases e : Nat.beq j q with
    | false => rw [e] at hq; cases hq
    | true =>
     rw [e] at hq; cases hq
     have := nbeq_t e; subst this
     exact ⟨hj, e3, by rw [e1]; exact hjb g' rfl⟩
   ·cases e : Nat.beq k q with
    | false => rw [e] at hq; cases hq
    | true =>
     rw [e] at hq; cases hq
     have := nbeq_t e; subst this
     refine ⟨_, hle k hkj _ hβ, ?_⟩
     rw [e2]
     have keep1 : ∀ {i' c' : Nat} {d : M} {v : Value}, ¬ (i' = i ∧ c' = c) → OwC (g.only hs) w d v (A i' c') → OwC (g'.only (j :: hs)) w d v (fun x => ¬ (i' = i ∧ c' = c) ∧ A i' c' x) := fun {i' c' d v} hne hold => by
      refine (hold.keep (g := g.only hs) (g' := g'.only (j :: hs)) (Dm.le_refl _) (fun q _ b' hb' => ?_) (keep_refl _ _ _)).imp (fun h => h.foot fun x => by simp [hne]) (fun h => ⟨h.1, fun x hx => h.2 x hx.2⟩)
      have hb2 : (if memN q hs = true then g.β q else none) = some b' := hb'
      split at hb2
      ·rename_i hm
       show (if memN q (j :: hs) = true then g'.β q else none) = _
       rw [if_pos (by simp [memN, hm])]
       exact hle q (hnh q hm) b' hb2
      ·cases hb2
     refine .oa b o cap z (j :: hs) cur ty _ (fun i' c' x => ¬ (i' = i ∧ c' = c) ∧ A i' c' x) _ hb hdf hsz h1c h0 (by simpa using hcc) (fun i' ds hi' => ?_) (fun i' c' x hx => by simpa using hA i' c' x hx.2) (fun i1 c1 i2 c2 x hx hx' => hdis i1 c1 i2 c2 x hx.2 hx'.2) (fun x => Iff.rfl) fun i' c' ds d v hi' hd hv => ?_
     ·rw [set_get i' hil] at hi'
      by_cases e : i' = i
      ·rw [if_pos e] at hi'; cases hi'; simpa using hzl
      ·rw [if_neg e] at hi'; exact hz i' ds hi'
     ·rw [set_get i' hil] at hi'
      by_cases e : i' = i
      ·subst e
       rw [if_pos rfl] at hi'; cases hi'
       rw [set_get c' hcl] at hd
       by_cases ec : c' = c
       ·subst ec
        rw [if_pos rfl] at hd
        cases hd
        rw [hvc] at hv
        cases hv
        refine .inr ⟨hjv (g'.only (j :: hs)) j (Dm.le_refl _) ?_, fun x hx => hx.1 ⟨rfl, rfl⟩⟩
        show (if memN j (j :: hs) = true then g'.β j else none) = _
        rw [if_pos (by simp [memN])]; exact e3
       ·rw [if_neg ec] at hd
        exact keep1 (fun h => ec h.2) (hr i' c' cs d v hi hd hv)
      ·rw [if_neg e] at hi'
       exact keep1 (fun h => e h.1) (hr i' c' ds d v hi' hd hv)
  ·have h1 : q ≠ j := fun e => by subst e; simp [names] at hn
   have h2 : q ≠ k := fun e => by subst e; simp [names] at hp
   show (if q = j then _ else if q = k then _ else _) = _; rw [if_neg h1, if_neg h2]
  ·refine ⟨k, _, hk, .inr (by simp [names]), fun hq' => ?_, ?_⟩
   ·rcases hq with hq | hq
    ·simp [names] at hq
     subst hq
     simp only [Bool.or_eq_true] at hrb
     rcases hrb with h1 | h1
     ·have := Nat.le_of_ble_eq_true h1; omega
     ·exact Nat.le_of_ble_eq_true h1
    ·simp [names] at hq; subst hq; exact hq'
   ·rw [hφ]
    rcases hq with hq | hq
    ·simp [names] at hq; subst hq
     rw [e1] at hx
     exact (hF x).2 (.inr ⟨i, c, hx⟩)
    ·simp [names] at hq; subst hq
     rw [e2] at hx
     rcases hx with hx | ⟨i', c', _, hx⟩
     ·exact (hF x).2 (.inl hx)
     ·exact (hF x).2 (.inr ⟨i', c', hx⟩)
  ·simp [names] at hq hq'
   have cross : g'.φ j x → g'.φ k x → False := fun h1 h2 => by
    rw [e1] at h1
    rw [e2] at h2
    rcases h2 with h2 | ⟨i', c', hi', h2⟩
    ·exact (hA i c x h1).2 h2
    ·exact hi' (hdis i' c' i c x h2 h1)
   rcases hq with rfl | rfl <;> rcases hq' with rfl | rfl
   ·rfl
   ·exact (cross hx hx').elim
   ·exact (cross hx' hx).elim
   ·rfl
theorem whole_not {j : Nat} {h m : M} {ps : List Prop} (hw : whole j h m = some ps) : isOwned h = false := by
 unfold whole at hw
 split at hw <;> first | rfl | cases hw
theorem shutS_sim (h : FInv DF D0 w0 X g st a w) {k c j : Nat} {cs : List M} {m hm : M} {ps : List Prop} (hkj : k ≠ j) (hrb : Nat.ble RB k || Nat.blt j RB) (hk : lookB st.bx k = some (.os cs)) (hj : lookB st.bx j = some m) (hc : cs[c]? = some hm)
  (hw : whole j hm m = some ps) (hp : ∀ p ∈ ps, p) (hs : st.eff { val := .tup [], put := [(k, .os (cs.set c m))], del := [j] } = some st') : ∃ g', FInv DF D0 w0 X g' st' a w := by
 obtain ⟨hd, hβ, hok⟩ := h.bx k _ hk
 obtain ⟨hdj, hβj, hokj⟩ := h.bx j _ hj
 have hsep : ∀ x, g.φ k x → g.φ j x → False := fun x h1 h2 => hkj (h.sep k j _ _ x hk hj h1 h2)
 generalize hφ : g.φ k = F at hok hsep
 cases hok with
 | os b ty vs cs A F hl hb hdf hA hdis hF hr =>
  have hcl := (List.getElem?_eq_some_iff.1 hc).1
  have hvc := List.getElem?_eq_getElem (show c < vs.length by omega)
  obtain ⟨hrep, hAc⟩ := (hr c _ hm hvc hc).cell (whole_not hw)
  obtain ⟨F', hF', hown⟩ := whole_own hokj hβj hrep hw hp
  let A' : Nat → Foot := fun i x => if i = c then F' x else A i x
  let g' : Gh := ⟨g.D, g.β, fun q => if q = k then (fun x => x = b ∨ ∃ i, A' i x) else g.φ q⟩
  have e2 : g'.φ k = fun x => x = b ∨ ∃ i, A' i x := by show (if k = k then _ else _) = _; rw [if_pos rfl]
  have hA' : ∀ i x, A' i x → (i = c ∧ F' x) ∨ (i ≠ c ∧ A i x) := fun i x hx => by
   have hx' : (if i = c then F' x else A i x) := hx
   split at hx'
   ·rename_i e; exact .inl ⟨e, hx'⟩
   ·rename_i e; exact .inr ⟨e, hx'⟩
  have hbF : ¬ g.φ j b := fun hx => hsep b ((hF b).2 (.inl rfl)) hx
  have hAF : ∀ i x, A i x → ¬ g.φ j x := fun i x hx hy => hsep x ((hF x).2 (.inr ⟨i, hx⟩)) hy
  refine ⟨g', eff_sim h hs (Does.ghost h rfl (fun _ _ => rfl) rfl (fun q o hq => ?_) (fun q o hq _ hp _ => ?_) (fun q x hq hx => ?_) (fun q q' x hq hq' _ _ => ?_))⟩
  ·simp only [lookB] at hq
   rcases hq with hq | ⟨_, hq⟩
   ·cases hq
   ·cases e : Nat.beq k q with
    | false => rw [e] at hq; cases hq
    | true =>
     rw [e] at hq; cases hq
     have := nbeq_t e; subst this
     refine ⟨.p b, hβ, ?_⟩
     rw [e2]
     refine .os b ty vs (cs.set c m) A' _ (by simpa using hl) hb hdf (fun i x hx => ?_) (fun i i' x hx hx' => ?_) (fun x => Iff.rfl) fun i v d hv hd => ?_
     ·rcases hA' i x hx with ⟨e1, hx1⟩ | ⟨_, hx1⟩
      ·exact ⟨by rw [e1]; simpa using hcl, fun e => hbF (e ▸ hF' x hx1)⟩
      ·simpa using hA i x hx1
     ·rcases hA' i x hx with ⟨rfl, h1⟩ | ⟨h0, h1⟩ <;> rcases hA' i' x hx' with ⟨rfl, h2⟩ | ⟨h0', h2⟩
      ·rfl
      ·exact (hAF i' x h2 (hF' x h1)).elim
      ·exact (hAF i x h1 (hF' x h2)).elim
      ·exact hdis i i' x h1 h2
     ·rw [set_get i hcl] at hd
      by_cases e : i = c
      ·subst e
       rw [if_pos rfl] at hd
       cases hd
       rw [hvc] at hv
       cases hv
       exact .inl (hown.foot fun x => by show F' x ↔ (if i = i then F' x else A i x); rw [if_pos rfl])
      ·rw [if_neg e] at hd
       refine ((hr i v d hv hd).keep (g' := g') (Dm.le_refl _) (fun _ _ _ h => h) (keep_refl _ _ _)).imp (fun h => h.foot fun x => by show A i x ↔ (if i = c then F' x else A i x); rw [if_neg e]) (fun h => ⟨h.1, fun x hx => ?_⟩)
       rcases hA' i x hx with ⟨h1, _⟩ | ⟨_, h1⟩
       ·exact e h1
       ·exact h.2 x h1
  ·have h2 : q ≠ k := fun e => by subst e; simp [names] at hp
   show (if q = k then _ else _) = _; rw [if_neg h2]
  ·simp [names] at hq
   subst hq
   rw [e2] at hx
   rcases hx with hx | ⟨i, hx⟩
   ·exact ⟨q, _, hk, .inr (by simp [names]), fun h => h, by rw [hφ]; exact (hF x).2 (.inl hx)⟩
   ·rcases hA' i x hx with ⟨_, hx⟩ | ⟨_, hx⟩
    ·refine ⟨j, _, hj, .inl (by simp), fun hq => ?_, hF' x hx⟩
     simp only [Bool.or_eq_true] at hrb
     rcases hrb with h1 | h1
     ·have := Nat.le_of_ble_eq_true h1; omega
     ·exact Nat.le_of_ble_eq_true h1
    ·exact ⟨q, _, hk, .inr (by simp [names]), fun h => h, by rw [hφ]; exact (hF x).2 (.inr ⟨i, hx⟩)⟩
  ·simp [names] at hq hq'; rw [hq, hq']
theorem remN_mem {k q : Nat} : ∀ {l : List Nat}, memN q (remN k l) = true ↔ memN q l = true ∧ q ≠ k
 | [] => by simp [remN, memN]
 | x :: r => by
  simp only [remN]
  cases e : Nat.beq x k with
  | true =>
   have := nbeq_t e
   subst this
   simp only [cond_true, memN, Bool.or_eq_true]
   rw [remN_mem (l := r)]
   constructor
   ·rintro ⟨h1, h2⟩; exact ⟨.inr h1, h2⟩
   ·rintro ⟨h1 | h1, h2⟩
    ·exact absurd (nbeq_t h1).symm h2
    ·exact ⟨h1, h2⟩
  | false =>
   have hne := nbeq_f e
   simp only [cond_false, memN, Bool.or_eq_true]
   rw [remN_mem (l := r)]
   constructor
   ·rintro (h1 | ⟨h1, h2⟩)
    ·exact ⟨.inl h1, fun e => hne (by rw [nbeq_t h1, e])⟩
    ·exact ⟨.inr h1, h2⟩
   ·rintro ⟨h1 | h1, h2⟩
    ·exact .inl h1
    ·exact .inr ⟨h1, h2⟩
theorem shutE_sim (h : FInv DF D0 w0 X g st a w) {k i c j z : Nat} {hs : List Nat} {xs : List (List M)} {cs : List M} {m hm : M} {ps : List Prop} (hkj : k ≠ j) (hrb : Nat.ble RB k || Nat.blt j RB) (hk : lookB st.bx k = some (.oa hs z xs)) (hj : lookB st.bx j = some m)
  (hi : xs[i]? = some cs) (hc : cs[c]? = some hm) (hw : whole j hm m = some ps) (hno : ∀ ds, ds ∈ xs.set i (cs.set c m) → hasHs j ds = false) (hp : ∀ p ∈ ps, p)
  (hs' : st.eff { val := .tup [], put := [(k, .oa (remN j hs) z (xs.set i (cs.set c m)))], del := [j] } = some st') : ∃ g', FInv DF D0 w0 X g' st' a w := by
 obtain ⟨hd, hβ, hok⟩ := h.bx k _ hk
 obtain ⟨hdj, hβj, hokj⟩ := h.bx j _ hj
 have hsep : ∀ x, g.φ k x → g.φ j x → False := fun x h1 h2 => hkj (h.sep k j _ _ x hk hj h1 h2)
 generalize hφ : g.φ k = F at hok hsep
 cases hok with
 | oa0 => simp at hi
 | oae => simp at hi
 | oa b o cap _ _ cur ty _ A F hb hdf hsz h1c h0 hcc hz hA hdis hF hr =>
  have hil := (List.getElem?_eq_some_iff.1 hi).1
  have hcl := (List.getElem?_eq_some_iff.1 hc).1
  have hzl := hz i cs hi
  have hlt : o + (i * z + c) < cur.size := by
   have : (i + 1) * z ≤ cap * z := Nat.mul_le_mul_right z (by omega)
   rw [Nat.add_mul] at this; omega
  have hvc := Array.getElem?_eq_getElem hlt
  obtain ⟨hrep, hAc⟩ := (hr i c cs hm _ hi hc hvc).cell (whole_not hw)
  obtain ⟨F', hF', hown⟩ := whole_own hokj hβj (hrep.mono (only_le g hs)) hw hp
  let A' : Nat → Nat → Foot := fun i' c' x => if i' = i ∧ c' = c then F' x else A i' c' x
  let g' : Gh := ⟨g.D, g.β, fun q => if q = k then (fun x => x = b ∨ ∃ i' c', A' i' c' x) else g.φ q⟩
  have e2 : g'.φ k = fun x => x = b ∨ ∃ i' c', A' i' c' x := by show (if k = k then _ else _) = _; rw [if_pos rfl]
  have hA' : ∀ i' c' x, A' i' c' x → ((i' = i ∧ c' = c) ∧ F' x) ∨ (¬ (i' = i ∧ c' = c) ∧ A i' c' x) := fun i' c' x hx => by
   have hx' : (if i' = i ∧ c' = c then F' x else A i' c' x) := hx
   split at hx'
   ·rename_i e; exact .inl ⟨e, hx'⟩
   ·rename_i e; exact .inr ⟨e, hx'⟩
  have hbF : ¬ g.φ j b := fun hx => hsep b ((hF b).2 (.inl rfl)) hx
  have hAF : ∀ i' c' x, A i' c' x → ¬ g.φ j x := fun i' c' x hx hy => hsep x ((hF x).2 (.inr ⟨i', c', hx⟩)) hy
  refine ⟨g', eff_sim h hs' (Does.ghost h rfl (fun _ _ => rfl) rfl (fun q o hq => ?_) (fun q o hq _ hp _ => ?_) (fun q x hq hx => ?_) (fun q q' x hq hq' _ _ => ?_))⟩
  ·simp only [lookB] at hq
   rcases hq with hq | ⟨_, hq⟩
   ·cases hq
   ·cases e : Nat.beq k q with
    | false => rw [e] at hq; cases hq
    | true =>
     rw [e] at hq; cases hq
     have := nbeq_t e; subst this
     refine ⟨_, hβ, ?_⟩
     rw [e2]
     have keep1 : ∀ {i' c' : Nat} {ds : List M} {d : M} {v : Value}, ¬ (i' = i ∧ c' = c) → ds ∈ xs.set i (cs.set c m) → ds[c']? = some d → OwC (g.only hs) w d v (A i' c') → OwC (g'.only (remN j hs)) w d v (A' i' c') := fun {i' c' ds d v} hne hmem hd hold => by
      have hh := hold.keep (g := g.only hs) (g' := g'.only (remN j hs)) (w' := w) (Dm.le_refl _) (fun q hq b' hb' => by
       have hb2 : (if memN q hs = true then g.β q else none) = some b' := hb'
       split at hb2
       ·rename_i hm
        show (if memN q (remN j hs) = true then g'.β q else none) = _
        have hqj : q ≠ j := fun e => by
         subst e
         have := hno ds hmem
         rw [hasHs_of hd hq] at this; cases this
        rw [if_pos (remN_mem.2 ⟨hm, hqj⟩)]
        exact hb2
       ·cases hb2) (keep_refl _ _ _)
      refine hh.imp (fun h => h.foot fun x => by show A i' c' x ↔ (if i' = i ∧ c' = c then F' x else A i' c' x); rw [if_neg hne]) (fun h => ⟨h.1, fun x hx => ?_⟩)
      rcases hA' i' c' x hx with ⟨h1, _⟩ | ⟨_, h1⟩
      ·exact hne h1
      ·exact h.2 x h1
     refine .oa b o cap z (remN j hs) cur ty _ A' _ hb hdf hsz h1c h0 (by simpa using hcc) (fun i' ds hi' => ?_) (fun i' c' x hx => ?_) (fun i1 c1 i2 c2 x hx hx' => ?_) (fun x => Iff.rfl) fun i' c' ds d v hi' hd hv => ?_
     ·rw [set_get i' hil] at hi'
      by_cases e : i' = i
      ·rw [if_pos e] at hi'; cases hi'; simpa using hzl
      ·rw [if_neg e] at hi'; exact hz i' ds hi'
     ·rcases hA' i' c' x hx with ⟨⟨e1, e3⟩, hx1⟩ | ⟨_, hx1⟩
      ·exact ⟨⟨by rw [e1]; simpa using hil, by omega⟩, fun e => hbF (e ▸ hF' x hx1)⟩
      ·simpa using hA i' c' x hx1
     ·rcases hA' i1 c1 x hx with ⟨⟨rfl, rfl⟩, h1⟩ | ⟨h0, h1⟩ <;> rcases hA' i2 c2 x hx' with ⟨⟨rfl, rfl⟩, h2⟩ | ⟨h0', h2⟩
      ·exact ⟨rfl, rfl⟩
      ·exact (hAF i2 c2 x h2 (hF' x h1)).elim
      ·exact (hAF i1 c1 x h1 (hF' x h2)).elim
      ·exact hdis i1 c1 i2 c2 x h1 h2
     ·have hmem := List.mem_of_getElem? hi'
      rw [set_get i' hil] at hi'
      by_cases e : i' = i
      ·subst e
       rw [if_pos rfl] at hi'; cases hi'
       have hd0 := hd
       rw [set_get c' hcl] at hd
       by_cases ec : c' = c
       ·subst ec
        rw [if_pos rfl] at hd
        cases hd
        rw [hvc] at hv
        cases hv
        exact .inl (hown.foot fun x => by show F' x ↔ (if i' = i' ∧ c' = c' then F' x else A i' c' x); rw [if_pos ⟨rfl, rfl⟩])
       ·rw [if_neg ec] at hd
        exact keep1 (fun h => ec h.2) hmem hd0 (hr i' c' cs d v hi hd hv)
      ·rw [if_neg e] at hi'
       exact keep1 (fun h => e h.1) hmem hd (hr i' c' ds d v hi' hd hv)
  ·have h2 : q ≠ k := fun e => by subst e; simp [names] at hp
   show (if q = k then _ else _) = _; rw [if_neg h2]
  ·simp [names] at hq
   subst hq
   rw [e2] at hx
   rcases hx with hx | ⟨i', c', hx⟩
   ·exact ⟨q, _, hk, .inr (by simp [names]), fun h => h, by rw [hφ]; exact (hF x).2 (.inl hx)⟩
   ·rcases hA' i' c' x hx with ⟨_, hx⟩ | ⟨_, hx⟩
    ·refine ⟨j, _, hj, .inl (by simp), fun hq => ?_, hF' x hx⟩
     simp only [Bool.or_eq_true] at hrb
     rcases hrb with h1 | h1
     ·have := Nat.le_of_ble_eq_true h1; omega
     ·exact Nat.le_of_ble_eq_true h1
    ·exact ⟨q, _, hk, .inr (by simp [names]), fun h => h, by rw [hφ]; exact (hF x).2 (.inr ⟨i', c', hx⟩)⟩
  ·simp [names] at hq hq'; rw [hq, hq']
end
end Go.Bm
/- Names; slices without room; what is known from here on. -/
namespace Go.Bm
open Go.RowKit (Below)
section
variable {D0 : Dm} {w0 : World} {X : Foot} {DF : Env} {g : Gh} {st st' : St} {a : Act} {w : World}
theorem renSg_look (p q : Nat) : ∀ (sg : List (Nat × M)) (t : Nat), look (renSg p q sg) t = renH p q (look sg t)
 | [], t => by simp [renSg, look, renH]
 | (j, m) :: r, t => by
  simp only [renSg, look]
  cases Nat.beq j t with
  | true => rfl
  | false => simpa using renSg_look p q r t
mutual
theorem renH_rep {g g' : Gh} {p q : Nat} (hD : g.D.le g'.D) (hq : ∀ b, g.β p = some b → g'.β q = some b) (hβ : ∀ k, k ≠ p → k ≠ q → ∀ b, g.β k = some b → g'.β k = some b) :
  ∀ (m : M) {v : Value}, hasH q m = false → RepM g v m → RepM g' v (renH p q m)
 | .any, v, _, h => .any v
 | .t x, v, _, h => .t v x (h.t_inv.mono hD)
 | .tight xs, v, _, h => by cases h with | tight a n _ h hs => exact .tight a n xs (h.mono hD) hs
 | .cp cs, v, _, h => by
  obtain ⟨b, off, cell, rfl, hc, hr⟩ := h.cp_inv
  exact .cp b off cs cell (fun j hj => hD _ _ _ (hc j hj)) (fun j c hc => (hr j c hc).mono hD)
 | .agg cs, v, hk, h => by
  obtain ⟨vs, rfl, hl⟩ := h.agg_inv
  have := renHs_rep hD hq hβ cs (by simpa [hasH] using hk) hl
  exact .agg vs _ this.1 this.2
 | .clo f cs, v, hk, h => by
  obtain ⟨vs, rfl, hl⟩ := h.clo_inv
  have := renHs_rep hD hq hβ cs (by simpa [hasH] using hk) hl
  exact .clo f vs _ this.1 this.2
 | .tup cs, v, hk, h => by
  obtain ⟨vs, rfl, hl⟩ := h.tup_inv
  have := renHs_rep hD hq hβ cs (by simpa [hasH] using hk) hl
  exact .tup vs _ this.1 this.2
 | .own k z xs, v, hk, h => by
  have hn := ren_name (g := g) (g' := g') hq hβ (nbeq_f (by simpa [hasH] using hk))
  obtain ⟨h1, h2⟩ := h.own_inv
  simp only [renH]
  exact .own v _ z xs (h1.mono hD) (hn _ h2)
 | .ptr k o, v, hk, h => by
  have hn := ren_name (g := g) (g' := g') hq hβ (nbeq_f (by simpa [hasH] using hk))
  simp only [renH]
  cases h with | ptr b _ _ hb => exact .ptr b _ o (hn _ hb)
 | .pe k i o, v, hk, h => by
  have hn := ren_name (g := g) (g' := g') hq hβ (nbeq_f (by simpa [hasH] using hk))
  simp only [renH]
  cases h with | pe b ob z c _ _ _ hb => exact .pe b ob z c _ i o (hn _ hb)
 | .sb k z lo n, v, hk, h => by
  have hn := ren_name (g := g) (g' := g') hq hβ (nbeq_f (by simpa [hasH] using hk))
  simp only [renH]
  cases h with
  | sb b ob z c _ lo n hb hc hnn => exact .sb b ob z c _ lo n (hn _ hb) hc hnn
  | sbe a qq b ob z _ lo hb => exact .sbe a qq b ob z _ lo (hn _ hb)
  | sb0 z c _ hb => exact .sb0 z c _ (hn _ hb)
 | .mp k, v, hk, h => by
  have hn := ren_name (g := g) (g' := g') hq hβ (nbeq_f (by simpa [hasH] using hk))
  simp only [renH]
  cases h with | mp b _ hb => exact .mp b _ (hn _ hb)
 | .os _, v, _, h => by cases h
 | .oa _ _ _, v, _, h => by cases h
 | .op _ _, v, _, h => by cases h
 | .om _ _, v, _, h => by cases h
theorem renHs_rep {g g' : Gh} {p q : Nat} (hD : g.D.le g'.D) (hq : ∀ b, g.β p = some b → g'.β q = some b) (hβ : ∀ k, k ≠ p → k ≠ q → ∀ b, g.β k = some b → g'.β k = some b) :
  ∀ (cs : List M) {vs : List Value}, hasHs q cs = false → RepL g vs cs → RepL g' vs (renHs p q cs)
 | [], vs, _, h => by rw [h.nil_inv]; exact .nil _
 | c :: cs, vs, hk, h => by
  obtain ⟨v, r, rfl, hv, hr⟩ := h.cons_inv
  simp only [hasHs, Bool.or_eq_false_iff] at hk
  exact .cons (renH_rep hD hq hβ c hk.1 hv) (renHs_rep hD hq hβ cs hk.2 hr)
theorem ren_name {g g' : Gh} {p q k : Nat} (hq : ∀ b, g.β p = some b → g'.β q = some b) (hβ : ∀ k, k ≠ p → k ≠ q → ∀ b, g.β k = some b → g'.β k = some b) (hk : k ≠ q) :
  ∀ b, g.β k = some b → g'.β (bif Nat.beq k p then q else k) = some b := fun b hb => by
 cases e : Nat.beq k p with
 | true => have := nbeq_t e; subst this; exact hq b hb
 | false => exact hβ k (nbeq_f e) hk b hb
end
theorem renHs_get {p q : Nat} : ∀ {cs : List M} {j : Nat} {d : M}, (renHs p q cs)[j]? = some d → ∃ c, cs[j]? = some c ∧ d = renH p q c
 | [], j, d, h => by simp [renHs] at h
 | c :: cs, j, d, h => by
  simp only [renHs] at h
  cases j with
  | zero => simp at h; exact ⟨c, rfl, h.symm⟩
  | succ j => simpa using renHs_get (cs := cs) (by simpa using h)
theorem renHs_len {p q : Nat} : ∀ {cs : List M}, (renHs p q cs).length = cs.length
 | [] => rfl
 | c :: cs => by simp [renHs, renHs_len (cs := cs)]
theorem renH_owned {p q : Nat} {m : M} (ho : isOwned m = true) : renH p q m = m := by
 cases m <;> simp [isOwned] at ho <;> rfl
theorem renBx_look {p q : Nat} (hpq : p ≠ q) : ∀ {bx : List (Nat × M)}, lookB bx q = none → ∀ k, lookB (renBx p q bx) k = if k = q then (lookB bx p).map (renBox p q) else if k = p then none else (lookB bx k).map (renBox p q)
 | [], _, k => by simp [renBx, lookB]
 | (j, m) :: r, h, k => by
  simp only [lookB] at h
  cases ej : Nat.beq j q with
  | true => rw [ej] at h; cases h
  | false =>
   rw [ej] at h
   have ih := renBx_look hpq (bx := r) h k
   have hjq := nbeq_f ej
   simp only [renBx, lookB]
   cases ep : Nat.beq j p with
   | true =>
    have := nbeq_t ep
    subst this
    simp only [cond_true]
    by_cases hk : k = q
    ·subst hk
     simp
    ·rw [nbeq_of_ne (fun e => hk e.symm), cond_false, ih, if_neg hk, if_neg hk]
     by_cases hkj : k = j
     ·rw [if_pos hkj, if_pos hkj]
     ·rw [if_neg hkj, if_neg hkj, nbeq_of_ne (fun e => hkj e.symm), cond_false]
   | false =>
    have hjp := nbeq_f ep
    simp only [cond_false]
    by_cases hk : k = q
    ·subst hk
     rw [ej, cond_false, ih, if_pos rfl, if_pos rfl]
    ·rw [if_neg hk]
     rw [if_neg hk] at ih
     by_cases hkp : k = p
     ·subst hkp
      rw [ep, cond_false, ih, if_pos rfl, if_pos rfl]
     ·rw [if_neg hkp]
      rw [if_neg hkp] at ih
      cases ek : Nat.beq j k with
      | true => rfl
      | false => simpa using ih
theorem noHs_look {k : Nat} : ∀ {bx : List (Nat × M)}, noHs k bx = true → ∀ q o, lookB bx q = some o → (∀ hs z xs, o = .oa hs z xs → memN k hs = false) ∧ ∀ hs es, o = .om hs es → memN k hs = false
 | [], _, q, o, h => by simp [lookB] at h
 | (j, m) :: r, hn, q, o, h => by
  simp only [noHs, Bool.and_eq_true] at hn
  simp only [lookB] at h
  cases e : Nat.beq j q with
  | true =>
   rw [e] at h
   cases h
   refine ⟨fun hs z xs e => ?_, fun hs es e => ?_⟩ <;> (subst e; simpa using hn.1)
  | false => rw [e] at h; exact noHs_look hn.2 q o h
theorem BoxOk.other {g g' : Gh} {o o' : M} {hd : Hd} {F : Foot} (h : BoxOk g w o hd F) (hD : g.D.le g'.D) (hk : Keep g.D g'.D w w F) (f : M → M)
  (hos : ∀ cs, o = .os cs → ∃ ds, o' = .os ds ∧ ds.length = cs.length ∧ ∀ (j : Nat) (d : M), ds[j]? = some d → ∃ c, cs[j]? = some c ∧ d = f c)
  (hother : (∀ cs, o ≠ .os cs) → o' = o) (hcell : ∀ (c : M) (v : Value), boxH 0 o = boxH 0 o → isOwned c = false → RepM g v c → (∃ cs, o = .os cs ∧ c ∈ cs) → RepM g' v (f c)) (hown : ∀ c, isOwned c = true → f c = c)
  (honly : ∀ hs, (∀ z xs, o = .oa hs z xs → ∀ k b, memN k hs = true → g.β k = some b → g'.β k = some b) ∧ ∀ es, o = .om hs es → ∀ k b, memN k hs = true → g.β k = some b → g'.β k = some b) : BoxOk g' w o' hd F := by
 have hon : ∀ hs, (∀ k b, memN k hs = true → g.β k = some b → g'.β k = some b) → ∀ {m : M} {v : Value} {A : Foot}, OwC (g.only hs) w m v A → (∀ x, A x → F x) → OwC (g'.only hs) w m v A := fun hs hs' m v A hc hA =>
  hc.keep (g := g.only hs) (g' := g'.only hs) hD (fun q _ b hb => by
   have hb2 : (if memN q hs = true then g.β q else none) = some b := hb
   split at hb2
   ·rename_i hm
    show (if memN q hs = true then g'.β q else none) = _
    rw [if_pos hm]; exact hs' q b hm hb2
   ·cases hb2) fun x hx => hk x (hA x hx)
 cases h with
 | os b ty vs cs A F hl hb hd hA hdis hF h =>
  obtain ⟨ds, rfl, hdl, hdg⟩ := hos cs rfl
  have kb := hk b ((hF b).2 (.inl rfl))
  refine .os b ty vs ds A F (by rw [hl, hdl]) hb (fun j => (kb.2 j).trans (hd j)) (fun j x hx => by have := hA j x hx; omega) hdis hF fun j v d hv hd' => ?_
  obtain ⟨c, hc, rfl⟩ := hdg j d hd'
  by_cases ho : isOwned c = true
  ·rw [hown c ho]
   exact .inl (((h j v c hv hc).owned ho).keep hD fun x hx => hk x ((hF x).2 (.inr ⟨j, hx⟩)))
  ·obtain ⟨hr, hn⟩ := (h j v c hv hc).cell (by simpa using ho)
   exact .inr ⟨hcell c v rfl (by simpa using ho) hr ⟨cs, rfl, List.mem_of_getElem? hc⟩, hn⟩
 | oa0 z c hs F hF => rw [hother (by simp)]; exact .oa0 z c hs F hF
 | oae a q z hs F hF => rw [hother (by simp)]; exact .oae a q z hs F hF
 | oa b o c z hs' cur ty xs A F hb hd hs h1c h0 hc hz hA hdis hF h =>
  rw [hother (by simp)]
  have kb := hk b ((hF b).2 (.inl rfl))
  exact .oa b o c z hs' cur ty xs A F hb (fun j => (kb.2 j).trans (hd j)) hs h1c h0 hc hz hA hdis hF fun i j cs c v h1 h2 h3 => hon hs' ((honly hs').1 z xs rfl) (h i j cs c v h1 h2 h3) fun x hx => (hF x).2 (.inr ⟨i, j, hx⟩)
 | op v z xs F h ho => rw [hother (by simp)]; exact .op v z xs F (h.mono hD) (ho.keep hk)
 | om b clock hs entries es A F hl hb hd hA hdis hF hkk h =>
  rw [hother (by simp)]
  have kb := hk b ((hF b).2 (.inl rfl))
  exact .om b clock hs entries es A F hl hb (fun j => (kb.2 j).trans (hd j)) hA hdis hF hkk fun i e kv h1 h2 => hon hs ((honly hs).2 es rfl) (h i e kv h1 h2) fun x hx => (hF x).2 (.inr ⟨i, hx⟩)
theorem mv_sim (h : FInv DF D0 w0 X g st a w) {p q : Nat} (hf : FreeP st q) (hpq : p ≠ q) (hno : noHs p st.bx = true) (hrb : Nat.ble RB q || Nat.blt p RB) :
  ∃ g', FInv DF D0 w0 X g' { st with sg := renSg p q st.sg, bx := renBx p q st.bx } a w := by
 let g' : Gh := ⟨g.D, fun k => if k = q then g.β p else g.β k, fun k => if k = q then g.φ p else g.φ k⟩
 have hq : ∀ b, g.β p = some b → g'.β q = some b := fun b hb => by show (if q = q then _ else _) = _; rw [if_pos rfl]; exact hb
 have hβ : ∀ k, k ≠ p → k ≠ q → ∀ b, g.β k = some b → g'.β k = some b := fun k _ hk b hb => by show (if k = q then _ else _) = _; rw [if_neg hk]; exact hb
 have hlk := renBx_look hpq hf.b
 have old : ∀ k o, lookB (renBx p q st.bx) k = some o → ∃ k0 o0, lookB st.bx k0 = some o0 ∧ o = renBox p q o0 ∧ ((k = q ∧ k0 = p) ∨ (k ≠ q ∧ k ≠ p ∧ k0 = k)) := fun k o hk => by
  rw [hlk k] at hk
  by_cases e : k = q
  ·rw [if_pos e] at hk
   obtain ⟨o0, h1, h2⟩ := Option.map_eq_some_iff.1 hk
   exact ⟨p, o0, h1, h2.symm, .inl ⟨e, rfl⟩⟩
  ·rw [if_neg e] at hk
   by_cases e' : k = p
   ·rw [if_pos e'] at hk; cases hk
   ·rw [if_neg e'] at hk
    obtain ⟨o0, h1, h2⟩ := Option.map_eq_some_iff.1 hk
    exact ⟨k, o0, h1, h2.symm, .inr ⟨e, e', rfl⟩⟩
 have hφ : ∀ k k0, ((k = q ∧ k0 = p) ∨ (k ≠ q ∧ k ≠ p ∧ k0 = k)) → g'.φ k = g.φ k0 ∧ g'.β k = g.β k0 := fun k k0 hor => by
  rcases hor with ⟨rfl, rfl⟩ | ⟨h1, _, rfl⟩
  ·exact ⟨by show (if k = k then _ else _) = _; rw [if_pos rfl], by show (if k = k then _ else _) = _; rw [if_pos rfl]⟩
  ·exact ⟨by show (if k0 = q then _ else _) = _; rw [if_neg h1], by show (if k0 = q then _ else _) = _; rw [if_neg h1]⟩
 refine ⟨g', { bx := fun k o hk => ?_, sep := fun k k' o o' b hk hk' hb hb' => ?_, dw := h.dw, n := h.n, sg := fun t => ?_, new := fun k o b hk hr hb => ?_, d0 := h.d0, dnew := h.dnew, below := h.below, df := h.df, lb := fun k hk => by show (if k = q then _ else _) = _; rw [if_neg (by have := hf.lt; omega)]; exact h.lb k hk }⟩
 ·obtain ⟨k0, o0, h1, rfl, hor⟩ := old k o hk
  obtain ⟨hd, h2, h3⟩ := h.bx k0 o0 h1
  refine ⟨hd, by rw [(hφ k k0 hor).2]; exact h2, ?_⟩
  rw [(hφ k k0 hor).1]
  have hnh := noHs_look hno k0 o0 h1
  have hfx := hf.x k0 o0 h1
  refine h3.other (g' := g') (Dm.le_refl _) (keep_refl _ _ _) (renH p q) (fun cs e => ?_) (fun hne => ?_) (fun c v _ _ hr hm => ?_) (fun c ho => renH_owned ho) (fun hs => ⟨fun z xs e k b hm hb => ?_, fun es e k b hm hb => ?_⟩)
  ·subst e; exact ⟨_, rfl, renHs_len, fun j d hd => renHs_get hd⟩
  ·cases o0 <;> first | rfl | exact absurd rfl (hne _)
  ·obtain ⟨cs, rfl, hm⟩ := hm
   obtain ⟨j, hj⟩ := List.mem_iff_getElem?.1 hm
   refine renH_rep (g := g) (g' := g') (Dm.le_refl _) hq hβ c ?_ hr
   cases e : hasH q c with
   | false => rfl
   | true => simp only [boxH] at hfx; rw [hasHs_of hj e] at hfx; cases hfx
  ·subst e
   have h1 := hnh.1 hs z xs rfl
   simp only [boxH] at hfx
   exact hβ k (fun e => by subst e; rw [hm] at h1; cases h1) (fun e => by subst e; rw [hm] at hfx; cases hfx) b hb
  ·subst e
   have h1 := hnh.2 hs es rfl
   simp only [boxH] at hfx
   exact hβ k (fun e => by subst e; rw [hm] at h1; cases h1) (fun e => by subst e; rw [hm] at hfx; cases hfx) b hb
 ·obtain ⟨k0, o0, h1, _, hor⟩ := old k o hk
  obtain ⟨k0', o0', h1', _, hor'⟩ := old k' o' hk'
  rw [(hφ k k0 hor).1] at hb
  rw [(hφ k' k0' hor').1] at hb'
  have := h.sep k0 k0' o0 o0' b h1 h1' hb hb'
  rcases hor with ⟨e1, e2⟩ | ⟨e1, e2, e3⟩ <;> rcases hor' with ⟨e1', e2'⟩ | ⟨e1', e2', e3'⟩
  ·rw [e1, e1']
  ·exact absurd (by rw [← e3', ← this, e2]) e2'
  ·exact absurd (by rw [← e3, this, e2']) e2
  ·rw [← e3, ← e3', this]
 ·show RepM g' _ (look (renSg p q st.sg) t)
  rw [renSg_look]
  exact renH_rep (g := g) (g' := g') (Dm.le_refl _) hq hβ _ (hf.s t) (h.sg t)
 ·obtain ⟨k0, o0, h1, _, hor⟩ := old k o hk
  rw [(hφ k k0 hor).1] at hb
  refine h.new k0 o0 b h1 ?_ hb
  rcases hor with ⟨e1, e2⟩ | ⟨_, _, e3⟩
  ·subst e1 e2
   simp only [Bool.or_eq_true] at hrb
   rcases hrb with h2 | h2
   ·have := Nat.le_of_ble_eq_true h2; omega
   ·exact Nat.le_of_ble_eq_true h2
  ·rw [e3]; exact hr
theorem armT_sim (h : FInv DF D0 w0 X g st a w) {t d z : Nat} {xs : List (List T)} (ht : look st.sg t = .tight xs) (hs : st.eff { val := .tup [], new := [(d, .op z xs)] } = some st') :
  ∃ g', FInv DF D0 w0 X g' { st' with sg := (t, .own d z xs) :: st'.sg } a w := by
 have hf := free_P ((does_spec hs).1 d (by simp [names]))
 have hr := h.sg t
 rw [ht] at hr
 obtain ⟨ad, n, hv, hrt⟩ := hr.tight_inv
 let v := a.tmps.getD t undef
 let g' := g.at d (.a v z) (fun _ => False)
 have hD : Does w0 X D0 g st.bx w { val := .tup [], new := [(d, .op z xs)] } g' undef w := by
  refine Does.ghost h rfl (fun q hq => ?_) rfl (fun q o hq => ?_) (fun q o _ _ _ hn => ?_) (fun q x hq hx => ?_) (fun q q' x hq hq' hx => ?_)
  ·have : q ≠ d := fun e => by subst e; simp [names] at hq
   show (if q = d then _ else _) = _; rw [if_neg this]
  ·simp only [lookB] at hq
   rcases hq with hq | ⟨_, hq⟩
   ·cases e : Nat.beq d q with
    | false => rw [e] at hq; cases hq
    | true =>
     rw [e] at hq; cases hq
     have := nbeq_t e; subst this
     refine ⟨.a v z, by show (if d = d then _ else _) = _; rw [if_pos rfl], ?_⟩
     have e2 : g'.φ d = fun _ => False := by show (if d = d then _ else _) = _; rw [if_pos rfl]
     rw [e2]
     exact .op v z xs _ hrt ⟨ad, n, n, hv, .inl ⟨rfl, fun _ h => h⟩⟩
   ·cases hq
  ·have : q ≠ d := fun e => by subst e; simp [names] at hn
   show (if q = d then _ else _) = _; rw [if_neg this]
  ·simp [names] at hq; subst hq
   have e2 : g'.φ q x = False := by show (if q = q then (fun _ => False : Foot) else g.φ q) x = False; rw [if_pos rfl]
   rw [e2] at hx; exact hx.elim
  ·simp [names] at hq hq'; intro _; rw [hq, hq']
 have h2 := eff_sim h hs hD
 refine ⟨g', { h2 with sg := fun q => ?_ }⟩
 simp only [look]
 cases e : Nat.beq t q with
 | false => exact h2.sg q
 | true =>
  have := nbeq_t e; subst this
  exact .own _ d z xs hrt (by show (if d = d then _ else _) = _; rw [if_pos rfl])
theorem cell_sim (h : FInv DF D0 w0 X g st a w) {k c : Nat} {cs : List M} {m m' : M} (hk : lookB st.bx k = some (.os cs)) (hc : cs[c]? = some m) (ho : isOwned m = false) (hm : ∀ v, RepM g v m → RepM g v m')
  (hs : st.eff { val := .tup [], put := [(k, .os (cs.set c m'))] } = some st') : ∃ g', FInv DF D0 w0 X g' st' a w := by
 obtain ⟨hd, hβ, hok⟩ := h.bx k _ hk
 refine ⟨g, eff_sim h hs (Does.ghost h rfl (fun _ _ => rfl) rfl (fun q o hq => ?_) (fun q o _ _ _ _ => rfl) (fun q x hq hx => ?_) (fun q q' x hq hq' _ => ?_))⟩
 ·simp only [lookB] at hq
  rcases hq with hq | ⟨_, hq⟩
  ·cases hq
  ·cases e : Nat.beq k q with
   | false => rw [e] at hq; cases hq
   | true =>
    rw [e] at hq; cases hq
    have := nbeq_t e; subst this
    refine ⟨hd, hβ, ?_⟩
    generalize g.φ k = F at hok
    cases hok with
    | os b ty vs cs A F hl hb hdf hA hdis hF hr =>
     have hcl := (List.getElem?_eq_some_iff.1 hc).1
     refine .os b ty vs (cs.set c m') A F (by simpa using hl) hb hdf (fun i x hx => by simpa using hA i x hx) hdis hF fun i v d hv hd => ?_
     rw [set_get i hcl] at hd
     by_cases e : i = c
     ·subst e
      rw [if_pos rfl] at hd
      cases hd
      obtain ⟨h1, h2⟩ := (hr i v m hv hc).cell ho
      exact .inr ⟨hm v h1, h2⟩
     ·rw [if_neg e] at hd
      exact hr i v d hv hd
 ·simp [names] at hq; subst hq
  exact ⟨q, _, hk, .inr (by simp [names]), fun h => h, hx⟩
 ·simp [names] at hq hq'; intro _; rw [hq, hq']
theorem armB_sim (h : FInv DF D0 w0 X g st a w) {k c d z : Nat} {cs : List M} {xs : List (List T)} (hk : lookB st.bx k = some (.os cs)) (hc : cs[c]? = some (.tight xs))
  (hs : st.eff { val := .tup [], new := [(d, .op z xs)], put := [(k, .os (cs.set c (.own d z xs)))] } = some st') : ∃ g', FInv DF D0 w0 X g' st' a w := by
 have hf := free_P ((does_spec hs).1 d (by simp [names]))
 have hkd : k ≠ d := fun e => by subst e; rw [hf.b] at hk; cases hk
 obtain ⟨hd, hβ, hok⟩ := h.bx k _ hk
 generalize hφ : g.φ k = F at hok
 cases hok with
 | os b ty vs cs A F hl hb hdf hA hdis hF hr =>
  have hcl := (List.getElem?_eq_some_iff.1 hc).1
  have hvc := List.getElem?_eq_getElem (show c < vs.length by omega)
  obtain ⟨hrep, hAc⟩ := (hr c _ _ hvc hc).cell rfl
  obtain ⟨ad, n, hv, hrt⟩ := hrep.tight_inv
  have hrt' : RepT g.D vs[c] (.sl xs) := hrt
  let g' := g.at d (.a vs[c] z) (fun _ => False)
  have hle : ∀ q, q ≠ d → ∀ b, g.β q = some b → g'.β q = some b := fun q hq b hb => by show (if q = d then _ else _) = _; rw [if_neg hq]; exact hb
  have e1 : g'.φ d = fun _ => False := by show (if d = d then _ else _) = _; rw [if_pos rfl]
  have e3 : g'.β d = some (.a vs[c] z) := by show (if d = d then _ else _) = _; rw [if_pos rfl]
  have e2 : ∀ q, q ≠ d → g'.φ q = g.φ q := fun q hq => by show (if q = d then _ else _) = _; rw [if_neg hq]
  refine ⟨g', eff_sim h hs (Does.ghost h rfl (fun q hq => ?_) rfl (fun q o hq => ?_) (fun q o _ _ _ hn => e2 q fun e => by subst e; simp [names] at hn) (fun q x hq hx => ?_) (fun q q' x hq hq' hx hx' => ?_))⟩
  ·have : q ≠ d := fun e => by subst e; simp [names] at hq
   show (if q = d then _ else _) = _; rw [if_neg this]
  ·simp only [lookB] at hq
   rcases hq with hq | ⟨hq0, hq⟩
   ·cases e : Nat.beq d q with
    | false => rw [e] at hq; cases hq
    | true =>
     rw [e] at hq; cases hq
     have := nbeq_t e; subst this
     exact ⟨_, e3, by rw [e1]; exact .op _ z xs _ hrt' ⟨ad, n, n, hv, .inl ⟨rfl, fun _ h => h⟩⟩⟩
   ·cases e : Nat.beq k q with
    | false => rw [e] at hq; cases hq
    | true =>
     rw [e] at hq; cases hq
     have := nbeq_t e; subst this
     refine ⟨.p b, hle k hkd _ hβ, ?_⟩
     rw [e2 k hkd, hφ]
     refine .os b ty vs (cs.set c (.own d z xs)) A F (by simpa using hl) hb hdf (fun i x hx => by simpa using hA i x hx) hdis hF fun i v dd hv' hd' => ?_
     rw [set_get i hcl] at hd'
     by_cases e : i = c
     ·subst e
      rw [if_pos rfl] at hd'
      cases hd'
      rw [hvc] at hv'
      cases hv'
      exact .inr ⟨.own _ d z xs hrt' e3, hAc⟩
     ·rw [if_neg e] at hd'
      exact (hr i v dd hv' hd').keep (g' := g') (Dm.le_refl _) (fun q hq b' hb' => hle q (fun e => by subst e; have := hf.x k _ hk; simp only [boxH] at this; rw [hasHs_of hd' hq] at this; cases this) b' hb') (keep_refl _ _ _)
  ·simp [names] at hq
   rcases hq with rfl | rfl
   ·rw [e1] at hx; exact hx.elim
   ·rw [e2 q hkd] at hx; exact ⟨q, _, hk, .inr (by simp [names]), fun h => h, hx⟩
  ·simp [names] at hq hq'
   rcases hq with rfl | rfl <;> rcases hq' with rfl | rfl
   ·rfl
   ·rw [e1] at hx; exact hx.elim
   ·rw [e1] at hx'; exact hx'.elim
   ·rfl
theorem empty_own {v : Value} (z : Nat) (h : RepM g v (.tight [])) : ∃ hd : Hd, (∀ (g' : Gh) (w' : World) (F : Foot), (∀ x, ¬ F x) → BoxOk g' w' (.oa [] z []) hd F) ∧ ∀ (g' : Gh) (k : Nat), g'.β k = some hd → RepM g' v (.sb k z 0 0) := by
 have hsp := h.tight_spot
 obtain ⟨ad, n, rfl, hr⟩ := h.tight_inv
 cases hr with
 | spot a =>
  have := hsp a 0 0 rfl
  obtain ⟨b, off, sp⟩ := a
  simp only at this
  subst this
  exact ⟨.s (some (b, off)) z 0, fun g' w' F hF => .oae b off z [] F hF, fun g' k hk => .sbe b off b off z k 0 hk⟩
 | nil => exact ⟨.s none z 0, fun g' w' F hF => .oa0 z 0 [] F hF, fun g' k hk => .sb0 z 0 k hk⟩
 | sl b off _ _ _ _ cell hn _ _ _ _ =>
  simp only [List.length_nil] at hn
  subst hn
  exact ⟨.s (some (b, off)) z 0, fun g' w' F hF => .oae b off z [] F hF, fun g' k hk => .sbe b off b off z k 0 hk⟩
theorem armOT_sim (h : FInv DF D0 w0 X g st a w) {t d z : Nat} (ht : look st.sg t = .tight []) (hs : st.eff { val := .tup [], new := [(d, .oa [] z [])] } = some st') :
  ∃ g', FInv DF D0 w0 X g' { st' with sg := (t, .sb d z 0 0) :: st'.sg } a w := by
 have hf := free_P ((does_spec hs).1 d (by simp [names]))
 have hr := h.sg t
 rw [ht] at hr
 obtain ⟨hd, hbox, hval⟩ := empty_own z hr
 let v := a.tmps.getD t undef
 let g' := g.at d hd (fun _ => False)
 have hD : Does w0 X D0 g st.bx w { val := .tup [], new := [(d, .oa [] z [])] } g' undef w := by
  refine Does.ghost h rfl (fun q hq => ?_) rfl (fun q o hq => ?_) (fun q o _ _ _ hn => ?_) (fun q x hq hx => ?_) (fun q q' x hq hq' hx => ?_)
  ·have : q ≠ d := fun e => by subst e; simp [names] at hq
   show (if q = d then _ else _) = _; rw [if_neg this]
  ·simp only [lookB] at hq
   rcases hq with hq | ⟨_, hq⟩
   ·cases e : Nat.beq d q with
    | false => rw [e] at hq; cases hq
    | true =>
     rw [e] at hq; cases hq
     have := nbeq_t e; subst this
     refine ⟨hd, by show (if d = d then _ else _) = _; rw [if_pos rfl], ?_⟩
     have e2 : g'.φ d = fun _ => False := by show (if d = d then _ else _) = _; rw [if_pos rfl]
     rw [e2]
     exact hbox g' w _ fun _ h => h
   ·cases hq
  ·have : q ≠ d := fun e => by subst e; simp [names] at hn
   show (if q = d then _ else _) = _; rw [if_neg this]
  ·simp [names] at hq; subst hq
   have e2 : g'.φ q x = False := by show (if q = q then (fun _ => False : Foot) else g.φ q) x = False; rw [if_pos rfl]
   rw [e2] at hx; exact hx.elim
  ·simp [names] at hq hq'; intro _; rw [hq, hq']
 have h2 := eff_sim h hs hD
 refine ⟨g', { h2 with sg := fun q => ?_ }⟩
 simp only [look]
 cases e : Nat.beq t q with
 | false => exact h2.sg q
 | true =>
  have := nbeq_t e; subst this
  exact hval g' d (by show (if d = d then _ else _) = _; rw [if_pos rfl])
theorem armO_sim (h : FInv DF D0 w0 X g st a w) {k c d z : Nat} {cs : List M} (hk : lookB st.bx k = some (.os cs)) (hc : cs[c]? = some (.tight []))
  (hs : st.eff { val := .tup [], new := [(d, .oa [] z [])], put := [(k, .os (cs.set c (.sb d z 0 0)))] } = some st') : ∃ g', FInv DF D0 w0 X g' st' a w := by
 have hf := free_P ((does_spec hs).1 d (by simp [names]))
 have hkd : k ≠ d := fun e => by subst e; rw [hf.b] at hk; cases hk
 obtain ⟨hd, hβ, hok⟩ := h.bx k _ hk
 generalize hφ : g.φ k = F at hok
 cases hok with
 | os b ty vs cs A F hl hb hdf hA hdis hF hr =>
  have hcl := (List.getElem?_eq_some_iff.1 hc).1
  have hvc := List.getElem?_eq_getElem (show c < vs.length by omega)
  obtain ⟨hrep, hAc⟩ := (hr c _ _ hvc hc).cell rfl
  obtain ⟨hdE, hbox, hval⟩ := empty_own z hrep
  let g' := g.at d hdE (fun _ => False)
  have hle : ∀ q, q ≠ d → ∀ b, g.β q = some b → g'.β q = some b := fun q hq b hb => by show (if q = d then _ else _) = _; rw [if_neg hq]; exact hb
  have e1 : g'.φ d = fun _ => False := by show (if d = d then _ else _) = _; rw [if_pos rfl]
  have e3 : g'.β d = some hdE := by show (if d = d then _ else _) = _; rw [if_pos rfl]
  have e2 : ∀ q, q ≠ d → g'.φ q = g.φ q := fun q hq => by show (if q = d then _ else _) = _; rw [if_neg hq]
  refine ⟨g', eff_sim h hs (Does.ghost h rfl (fun q hq => ?_) rfl (fun q o hq => ?_) (fun q o _ _ _ hn => e2 q fun e => by subst e; simp [names] at hn) (fun q x hq hx => ?_) (fun q q' x hq hq' hx hx' => ?_))⟩
  ·have : q ≠ d := fun e => by subst e; simp [names] at hq
   show (if q = d then _ else _) = _; rw [if_neg this]
  ·simp only [lookB] at hq
   rcases hq with hq | ⟨hq0, hq⟩
   ·cases e : Nat.beq d q with
    | false => rw [e] at hq; cases hq
    | true =>
     rw [e] at hq; cases hq
     have := nbeq_t e; subst this
     exact ⟨_, e3, by rw [e1]; exact hbox g' w _ fun _ h => h⟩
   ·cases e : Nat.beq k q with
    | false => rw [e] at hq; cases hq
    | true =>
     rw [e] at hq; cases hq
     have := nbeq_t e; subst this
     refine ⟨.p b, hle k hkd _ hβ, ?_⟩
     rw [e2 k hkd, hφ]
     refine .os b ty vs (cs.set c (.sb d z 0 0)) A F (by simpa using hl) hb hdf (fun i x hx => by simpa using hA i x hx) hdis hF fun i v dd hv' hd' => ?_
     rw [set_get i hcl] at hd'
     by_cases e : i = c
     ·subst e
      rw [if_pos rfl] at hd'
      cases hd'
      rw [hvc] at hv'
      cases hv'
      exact .inr ⟨hval g' d e3, hAc⟩
     ·rw [if_neg e] at hd'
      exact (hr i v dd hv' hd').keep (g' := g') (Dm.le_refl _) (fun q hq b' hb' => hle q (fun e => by subst e; have := hf.x k _ hk; simp only [boxH] at this; rw [hasHs_of hd' hq] at this; cases this) b' hb') (keep_refl _ _ _)
  ·simp [names] at hq
   rcases hq with rfl | rfl
   ·rw [e1] at hx; exact hx.elim
   ·rw [e2 q hkd] at hx; exact ⟨q, _, hk, .inr (by simp [names]), fun h => h, hx⟩
  ·simp [names] at hq hq'
   rcases hq with rfl | rfl <;> rcases hq' with rfl | rfl
   ·rfl
   ·rw [e1] at hx; exact hx.elim
   ·rw [e1] at hx'; exact hx'.elim
   ·rfl
theorem comSg_look (k : Nat) (f : M → M) : ∀ (sg : List (Nat × M)) (t : Nat), look (comSg k f sg) t = comH k f (look sg t)
 | [], t => by simp [comSg, look, comH]
 | (j, m) :: r, t => by
  simp only [comSg, look]
  cases Nat.beq j t with
  | true => rfl
  | false => simpa using comSg_look k f r t
def comBox (k : Nat) (f : M → M) : M → M
 | .os cs => .os (comHs k f cs)
 | m => m
theorem comBx_look (k : Nat) (f : M → M) : ∀ (bx : List (Nat × M)) (q : Nat), lookB (comBx k f bx) q = (lookB bx q).map (comBox k f)
 | [], q => rfl
 | (j, m) :: r, q => by
  simp only [comBx, lookB]
  cases Nat.beq j q with
  | true => cases m <;> rfl
  | false => simpa using comBx_look k f r q
theorem comHs_get {k : Nat} {f : M → M} : ∀ {cs : List M} {j : Nat} {d : M}, (comHs k f cs)[j]? = some d → ∃ c, cs[j]? = some c ∧ d = comH k f c
 | [], j, d, h => by simp [comHs] at h
 | c :: cs, j, d, h => by
  simp only [comHs] at h
  cases j with
  | zero => simp at h; exact ⟨c, rfl, h.symm⟩
  | succ j => simpa using comHs_get (cs := cs) (by simpa using h)
theorem comHs_len {k : Nat} {f : M → M} : ∀ {cs : List M}, (comHs k f cs).length = cs.length
 | [] => rfl
 | c :: cs => by simp [comHs, comHs_len (cs := cs)]
theorem comH_owned {k : Nat} {f : M → M} {m : M} (ho : isOwned m = true) : comH k f m = m := by
 cases m <;> simp [isOwned] at ho <;> rfl
mutual
theorem comH_rep {g g' : Gh} {k : Nat} {f : M → M} {ask : M → List Prop} (hD : g.D.le g'.D) (hβ : ∀ q, q ≠ k → ∀ b, g.β q = some b → g'.β q = some b) (hown : ∀ v z xs, RepM g v (.own k z xs) → False) (hmp : ∀ v, RepM g v (.mp k) → False)
  (hf : ∀ m v, (∃ o, m = .ptr k o) ∨ (∃ i o, m = .pe k i o) ∨ (∃ z lo n, m = .sb k z lo n ∧ ∀ p ∈ ask m, p) → RepM g v m → RepM g' v (f m)) :
  ∀ (m : M) {v : Value}, (∀ p ∈ asks k ask m, p) → RepM g v m → RepM g' v (comH k f m)
 | .any, v, _, h => .any v
 | .t x, v, _, h => .t v x (h.t_inv.mono hD)
 | .tight xs, v, _, h => by cases h with | tight a n _ h hs => exact .tight a n xs (h.mono hD) hs
 | .cp cs, v, _, h => by
  obtain ⟨b, off, cell, rfl, hc, hr⟩ := h.cp_inv
  exact .cp b off cs cell (fun j hj => hD _ _ _ (hc j hj)) (fun j c hc => (hr j c hc).mono hD)
 | .agg cs, v, hk, h => by
  obtain ⟨vs, rfl, hl⟩ := h.agg_inv
  have := comHs_rep hD hβ hown hmp hf cs (by simpa [asks] using hk) hl
  exact .agg vs _ this.1 this.2
 | .clo q cs, v, hk, h => by
  obtain ⟨vs, rfl, hl⟩ := h.clo_inv
  have := comHs_rep hD hβ hown hmp hf cs (by simpa [asks] using hk) hl
  exact .clo q vs _ this.1 this.2
 | .tup cs, v, hk, h => by
  obtain ⟨vs, rfl, hl⟩ := h.tup_inv
  have := comHs_rep hD hβ hown hmp hf cs (by simpa [asks] using hk) hl
  exact .tup vs _ this.1 this.2
 | .own j z xs, v, _, h => by
  obtain ⟨h1, h2⟩ := h.own_inv
  by_cases e : j = k
  ·subst e; exact (hown v z xs h).elim
  ·exact .own v j z xs (h1.mono hD) (hβ j e _ h2)
 | .ptr j o, v, _, h => by
  simp only [comH]
  cases e : Nat.beq j k with
  | true => have := nbeq_t e; subst this; exact hf _ v (.inl ⟨o, rfl⟩) h
  | false => simp only [cond_false]; cases h with | ptr b _ _ hb => exact .ptr b j o (hβ j (nbeq_f e) _ hb)
 | .pe j i o, v, _, h => by
  simp only [comH]
  cases e : Nat.beq j k with
  | true => have := nbeq_t e; subst this; exact hf _ v (.inr (.inl ⟨i, o, rfl⟩)) h
  | false => simp only [cond_false]; cases h with | pe b ob z c _ _ _ hb => exact .pe b ob z c j i o (hβ j (nbeq_f e) _ hb)
 | .sb j z lo n, v, hp, h => by
  simp only [comH]
  cases e : Nat.beq j k with
  | true =>
   have := nbeq_t e; subst this
   exact hf _ v (.inr (.inr ⟨z, lo, n, rfl, fun p hm => hp p (by simp only [asks, Nat.beq_refl, cond_true]; exact hm)⟩)) h
  | false =>
   simp only [cond_false]
   cases h with
   | sb b ob z c _ lo n hb hc hnn => exact .sb b ob z c j lo n (hβ j (nbeq_f e) _ hb) hc hnn
   | sbe a qq b ob z _ lo hb => exact .sbe a qq b ob z j lo (hβ j (nbeq_f e) _ hb)
   | sb0 z c _ hb => exact .sb0 z c j (hβ j (nbeq_f e) _ hb)
 | .mp j, v, _, h => by
  by_cases e : j = k
  ·subst e; exact (hmp v h).elim
  ·simp only [comH]; cases h with | mp b _ hb => exact .mp b j (hβ j e _ hb)
 | .os _, v, _, h => by cases h
 | .oa _ _ _, v, _, h => by cases h
 | .op _ _, v, _, h => by cases h
 | .om _ _, v, _, h => by cases h
theorem comHs_rep {g g' : Gh} {k : Nat} {f : M → M} {ask : M → List Prop} (hD : g.D.le g'.D) (hβ : ∀ q, q ≠ k → ∀ b, g.β q = some b → g'.β q = some b) (hown : ∀ v z xs, RepM g v (.own k z xs) → False) (hmp : ∀ v, RepM g v (.mp k) → False)
  (hf : ∀ m v, (∃ o, m = .ptr k o) ∨ (∃ i o, m = .pe k i o) ∨ (∃ z lo n, m = .sb k z lo n ∧ ∀ p ∈ ask m, p) → RepM g v m → RepM g' v (f m)) :
  ∀ (cs : List M) {vs : List Value}, (∀ p ∈ askss k ask cs, p) → RepL g vs cs → RepL g' vs (comHs k f cs)
 | [], vs, _, h => by rw [h.nil_inv]; exact .nil _
 | c :: cs, vs, hk, h => by
  obtain ⟨v, r, rfl, hv, hr⟩ := h.cons_inv
  simp only [askss, List.mem_append] at hk
  exact .cons (comH_rep hD hβ hown hmp hf c (fun p hp => hk p (.inl hp)) hv) (comHs_rep hD hβ hown hmp hf cs (fun p hp => hk p (.inr hp)) hr)
end
theorem askSg_look {k : Nat} {f : M → List Prop} : ∀ {sg : List (Nat × M)}, (∀ p ∈ askSg k f sg, p) → ∀ t, ∀ p ∈ asks k f (look sg t), p
 | [], _, t => by simp [look, asks]
 | (j, m) :: r, h, t => by
  simp only [askSg, List.mem_append] at h
  simp only [look]
  cases Nat.beq j t with
  | true => exact fun p hp => h p (.inl hp)
  | false => exact askSg_look (fun p hp => h p (.inr hp)) t
theorem askBx_look {k : Nat} {f : M → List Prop} : ∀ {bx : List (Nat × M)}, (∀ p ∈ askBx k f bx, p) → ∀ q cs, lookB bx q = some (.os cs) → ∀ p ∈ askss k f cs, p
 | [], _, q, cs, h => by simp [lookB] at h
 | (j, m) :: r, h, q, cs, hq => by
  simp only [askBx, List.mem_append] at h
  simp only [lookB] at hq
  cases e : Nat.beq j q with
  | true =>
   rw [e] at hq
   cases hq
   exact fun p hp => h p (.inl hp)
  | false => rw [e] at hq; exact askBx_look (fun p hp => h p (.inr hp)) q cs hq
theorem askss_mem {k : Nat} {f : M → List Prop} : ∀ {cs : List M}, (∀ p ∈ askss k f cs, p) → ∀ c ∈ cs, ∀ p ∈ asks k f c, p
 | [], _, c, hc => by cases hc
 | x :: r, h, c, hc => by
  simp only [askss, List.mem_append] at h
  rcases List.mem_cons.1 hc with rfl | hc
  ·exact fun p hp => h p (.inl hp)
  ·exact askss_mem (fun p hp => h p (.inr hp)) c hc
theorem com_sim (h : FInv DF D0 w0 X g st a w) {k : Nat} {f : M → M} {ask : M → List Prop} {D' : Dm} {B2 : List (Nat × M)} {g' : Gh} (hg : g'.D = D') (hno : noHs k st.bx = true)
  (hD : g.D.le D') (hin : D'.inW w) (hkeep : ∀ q o, lookB st.bx q = some o → q ≠ k → Keep g.D D' w w (g.φ q)) (hdn : ∀ b j u, D' b j = some u → D0 b j = some u ∨ w0.heap.size ≤ b ∨ X b)
  (hβ : ∀ q, q ≠ k → ∀ b, g.β q = some b → g'.β q = some b) (hφ : ∀ q o, lookB st.bx q = some o → q ≠ k → g'.φ q = g.φ q)
  (hown : ∀ v z xs, RepM g v (.own k z xs) → False) (hmp : ∀ v, RepM g v (.mp k) → False)
  (hf : ∀ m v, (∃ o, m = .ptr k o) ∨ (∃ i o, m = .pe k i o) ∨ (∃ z lo n, m = .sb k z lo n ∧ ∀ p ∈ ask m, p) → RepM g v m → RepM g' v (f m))
  (hp1 : ∀ p ∈ askSg k ask st.sg, p) (hp2 : ∀ p ∈ askBx k ask (dropB k st.bx), p)
  (hB2 : ∀ q o, lookB B2 q = some o → (∃ hd, g'.β q = some hd ∧ BoxOk g' w o hd (g'.φ q)) ∧ (∀ x, g'.φ q x → g.φ k x) ∧ (q < RB → k < RB) ∧ ∀ q' o', lookB B2 q' = some o' → q = q')
  (hkk : ∃ o, lookB st.bx k = some o) (hB2n : ∀ q o, lookB B2 q = some o → lookB st.bx q = none ∨ q = k) (hlb : ∀ q, CB ≤ q → g'.β q = g.β q) :
  FInv DF D0 w0 X g' { st with sg := comSg k f st.sg, bx := B2 ++ comBx k f (dropB k st.bx) } a w := by
 subst hg
 obtain ⟨ok, hok⟩ := hkk
 have look2 : ∀ q o, lookB (B2 ++ comBx k f (dropB k st.bx)) q = some o → (lookB B2 q = some o) ∨ (lookB B2 q = none ∧ q ≠ k ∧ ∃ o0, lookB st.bx q = some o0 ∧ o = comBox k f o0) := fun q o hq => by
  rw [lookB_append] at hq
  cases e : lookB B2 q with
  | some o' => rw [e] at hq; exact .inl hq
  | none =>
   rw [e] at hq
   simp only at hq
   rw [comBx_look, dropB_look] at hq
   by_cases hqk : q = k
   ·rw [if_pos hqk] at hq; cases hq
   ·rw [if_neg hqk] at hq
    obtain ⟨o0, h1, h2⟩ := Option.map_eq_some_iff.1 hq
    exact .inr ⟨rfl, hqk, o0, h1, h2.symm⟩
 have hB2sep : ∀ q o q' o0 x, lookB B2 q = some o → q' ≠ k → lookB st.bx q' = some o0 → g'.φ q x → g'.φ q' x → False := fun q o q' o0 x hq hk' hq' hx hx' => by
  rw [hφ q' o0 hq' hk'] at hx'
  exact hk' (h.sep k q' ok o0 x hok hq' ((hB2 q o hq).2.1 x hx) hx').symm
 refine { bx := fun q o hq => ?_, sep := fun q q' o o' x hq hq' hx hx' => ?_, dw := hin, n := h.n, sg := fun t => ?_, new := fun q o x hq hr hx => ?_, d0 := Dm.le_trans h.d0 hD, dnew := hdn, below := h.below, df := h.df, lb := fun q hq => (hlb q hq).trans (h.lb q hq) }
 ·rcases look2 q o hq with hq | ⟨_, hqk, o0, h1, rfl⟩
  ·exact (hB2 q o hq).1
  ·obtain ⟨hd, h2, h3⟩ := h.bx q o0 h1
   refine ⟨hd, hβ q hqk _ h2, ?_⟩
   rw [hφ q o0 h1 hqk]
   have hnh := noHs_look hno q o0 h1
   refine h3.other (g' := g') hD (hkeep q o0 h1 hqk) (comH k f) (fun cs e => ?_) (fun hne => ?_) (fun c v _ _ hr hm => ?_) (fun c ho => comH_owned ho) (fun hs => ⟨fun z xs e j b hm hb => ?_, fun es e j b hm hb => ?_⟩)
   ·subst e; exact ⟨_, rfl, comHs_len, fun j d hd => comHs_get hd⟩
   ·cases o0 <;> first | rfl | exact absurd rfl (hne _)
   ·obtain ⟨cs, rfl, hm⟩ := hm
    have h4 := askBx_look hp2 q cs (by rw [dropB_look, if_neg hqk]; exact h1)
    exact comH_rep (g := g) (g' := g') hD hβ hown hmp hf c (askss_mem h4 c hm) hr
   ·subst e
    have h4 := hnh.1 hs z xs rfl
    exact hβ j (fun e => by subst e; rw [hm] at h4; cases h4) b hb
   ·subst e
    have h4 := hnh.2 hs es rfl
    exact hβ j (fun e => by subst e; rw [hm] at h4; cases h4) b hb
 ·rcases look2 q o hq with hq | ⟨_, hqk, o0, h1, rfl⟩ <;> rcases look2 q' o' hq' with hq' | ⟨_, hqk', o0', h1', rfl⟩
  ·exact (hB2 q o hq).2.2.2 q' o' hq'
  ·exact (hB2sep q o q' o0' x hq hqk' h1' hx hx').elim
  ·exact (hB2sep q' o' q o0 x hq' hqk h1 hx' hx).elim
  ·rw [hφ q o0 h1 hqk] at hx
   rw [hφ q' o0' h1' hqk'] at hx'
   exact h.sep q q' o0 o0' x h1 h1' hx hx'
 ·show RepM g' _ (look (comSg k f st.sg) t)
  rw [comSg_look]
  exact comH_rep (g := g) (g' := g') hD hβ hown hmp hf _ (askSg_look hp1 t) (h.sg t)
 ·rcases look2 q o hq with hq | ⟨_, hqk, o0, h1, rfl⟩
  ·exact h.new k ok x hok ((hB2 q o hq).2.2.1 hr) ((hB2 q o hq).2.1 x hx)
  ·rw [hφ q o0 h1 hqk] at hx
   exact h.new q o0 x h1 hr hx
end
end Go.Bm
