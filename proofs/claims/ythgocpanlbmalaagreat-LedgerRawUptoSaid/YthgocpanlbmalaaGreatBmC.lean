import Derived.Test.YthgocpanlbmalaaGreatBmB
import Derived.Laws.AppendOwn
set_option linter.unusedVariables false
set_option linter.unusedSimpArgs false
/- What a call comes to. -/
namespace Go.Bm
open Go.RowKit (Below)
def namedFrom (bs : List Bk) : Nat → List M → List (Nat × M)
 | _, [] => []
 | i, m :: r => (nameOf bs i, m) :: namedFrom bs (i + 1) r
def named (bs : List Bk) (ls : List M) : List (Nat × M) := namedFrom bs 0 ls
inductive RepR (g : Gh) (w : World) : M → Value → Foot → Prop
 | leaf (m : M) (v : Value) (F : Foot) (h : RepM g v m) (hF : ∀ x, ¬ F x) : RepR g w m v F
 | own (m : M) (v : Value) (F : Foot) (ho : isOwned m = true) (h : OwN g.D w m v F) : RepR g w m v F
 | agg (vs : List Value) (cs : List M) (A : Nat → Foot) (F : Foot) (hl : vs.length = cs.length) (hA : ∀ j x, A j x → j < cs.length) (hdis : ∀ i j x, A i x → A j x → i = j) (hF : ∀ x, F x ↔ ∃ j, A j x)
   (h : ∀ (j : Nat) (v : Value) (c : M), vs[j]? = some v → cs[j]? = some c → RepR g w c v (A j)) : RepR g w (.agg cs) (.agg vs.toArray) F
 | tup (vs : List Value) (cs : List M) (A : Nat → Foot) (F : Foot) (hl : vs.length = cs.length) (hA : ∀ j x, A j x → j < cs.length) (hdis : ∀ i j x, A i x → A j x → i = j) (hF : ∀ x, F x ↔ ∃ j, A j x)
   (h : ∀ (j : Nat) (v : Value) (c : M), vs[j]? = some v → cs[j]? = some c → RepR g w c v (A j)) : RepR g w (.tup cs) (.tuple vs.toArray) F
def LX (g : Gh) (bs : List Bk) (ls : List M) : Foot := fun b => ∃ k o, lookB (named bs ls) k = some o ∧ k < RB ∧ g.φ k b
structure CameG (g : Gh) (w : World) (ls : List M) (bs : List Bk) (g' : Gh) (w' : World) : Prop where
 D : g.D.le g'.D
 inW : g'.D.inW w'
 β : ∀ k, CB ≤ k → g'.β k = g.β k
 box : ∀ i m, bs[i]? = some (.is m) → i < ls.length → ∃ h, g'.β (CB + i) = some h ∧ BoxOk g' w' m h (g'.φ (CB + i))
 src : ∀ i m b, bs[i]? = some (.is m) → i < ls.length → g'.φ (CB + i) b → w.heap.size ≤ b ∨ LX g bs ls b
 dis : ∀ i i' m m' b, bs[i]? = some (.is m) → bs[i']? = some (.is m') → i < ls.length → i' < ls.length → g'.φ (CB + i) b → g'.φ (CB + i') b → i = i'
 dnew : ∀ b j u, g'.D b j = some u → g.D b j = some u ∨ w.heap.size ≤ b ∨ LX g bs ls b
 below : Belows (LX g bs ls) w w'
def Came (g : Gh) (w : World) (ls : List M) (bs : List Bk) (oc : Oc) (e : Ending) (w' : World) : Prop :=
 ∃ g', CameG g w ls bs g' w' ∧
  match oc with
  | .ret r => ∃ v F, e = .returned v ∧ RepR g' w' r v F ∧ (∀ b, F b → w.heap.size ≤ b ∨ LX g bs ls b) ∧
    ∀ i m b, bs[i]? = some (.is m) → i < ls.length → F b → ¬ g'.φ (CB + i) b
  | .pan v => e = .panicked [{ v := v, recovered := false }]
def CallOk (P : Program) (f : FuncId) (args : List M) (ls : List M) (oc : Oc) (bs : List Bk) : Prop :=
 ∀ (g : Gh) (w : World) (vs : List Value), LInv g (named bs ls) w → RepL g vs args →
  ((callFunc f vs.toArray).run P w = .ok (.enter f vs.toArray) w ∧ Calls P f vs.toArray w (Came g w ls bs oc)) ∨
  ∃ v w', (callFunc f vs.toArray).run P w = .ok (.value v) w' ∧ Came g w ls bs oc (.returned v) w'
mutual
theorem mapH_rep {g g' : Gh} {f : Nat → Option Nat} (hD : g.D.le g'.D) (hβ : ∀ k j, f k = some j → ∀ b, g.β k = some b → g'.β j = some b) :
  ∀ (m : M) {v : Value} {m' : M}, RepM g v m → mapH f m = some m' → RepM g' v m'
 | .any, v, m', h, hm => by simp [mapH] at hm; subst hm; exact .any v
 | .t x, v, m', h, hm => by simp [mapH] at hm; subst hm; exact .t v x (h.t_inv.mono hD)
 | .tight xs, v, m', h, hm => by simp [mapH] at hm; subst hm; exact .t v _ ((h.tight_inv).choose_spec.choose_spec.2.mono hD)
 | .cp cs, v, m', h, hm => by
  simp [mapH] at hm; subst hm
  obtain ⟨b, off, cell, rfl, hc, hr⟩ := h.cp_inv
  exact .cp b off cs cell (fun j hj => hD _ _ _ (hc j hj)) (fun j c hc => (hr j c hc).mono hD)
 | .own _ _ xs, v, m', h, hm => by simp [mapH] at hm; subst hm; exact .t v _ (h.own_inv.1.mono hD)
 | .agg cs, v, m', h, hm => by
  obtain ⟨vs, rfl, hl⟩ := h.agg_inv
  simp only [mapH] at hm
  split at hm
  ·rename_i ds hds
   cases hm
   have := mapHs_rep hD hβ cs hl hds
   exact .agg vs ds this.1 this.2
  ·cases hm
 | .clo q cs, v, m', h, hm => by
  obtain ⟨vs, rfl, hl⟩ := h.clo_inv
  simp only [mapH] at hm
  split at hm
  ·rename_i ds hds
   cases hm
   have := mapHs_rep hD hβ cs hl hds
   exact .clo q vs ds this.1 this.2
  ·cases hm
 | .tup cs, v, m', h, hm => by
  obtain ⟨vs, rfl, hl⟩ := h.tup_inv
  simp only [mapH] at hm
  split at hm
  ·rename_i ds hds
   cases hm
   have := mapHs_rep hD hβ cs hl hds
   exact .tup vs ds this.1 this.2
  ·cases hm
 | .ptr k o, v, m', h, hm => by
  simp only [mapH] at hm
  split at hm
  ·rename_i j hj; cases hm; cases h with | ptr b _ _ hb => exact .ptr b j o (hβ k j hj _ hb)
  ·cases hm
 | .pe k i o, v, m', h, hm => by
  simp only [mapH] at hm
  split at hm
  ·rename_i j hj; cases hm; cases h with | pe b ob z c _ _ _ hb => exact .pe b ob z c j i o (hβ k j hj _ hb)
  ·cases hm
 | .sb k z lo n, v, m', h, hm => by
  simp only [mapH] at hm
  split at hm
  ·rename_i j hj
   cases hm
   cases h with
   | sb b ob z c _ lo n hb hc hn => exact .sb b ob z c j lo n (hβ k j hj _ hb) hc hn
   | sbe a q b ob z _ lo hb => exact .sbe a q b ob z j lo (hβ k j hj _ hb)
   | sb0 z c _ hb => exact .sb0 z c j (hβ k j hj _ hb)
  ·cases hm
 | .mp k, v, m', h, hm => by
  simp only [mapH] at hm
  split at hm
  ·rename_i j hj; cases hm; cases h with | mp b _ hb => exact .mp b j (hβ k j hj _ hb)
  ·cases hm
 | .os _, v, m', h, hm => by cases h
 | .oa _ _ _, v, m', h, hm => by cases h
 | .op _ _, v, m', h, hm => by cases h
 | .om _ _, v, m', h, hm => by cases h
theorem mapHs_rep {g g' : Gh} {f : Nat → Option Nat} (hD : g.D.le g'.D) (hβ : ∀ k j, f k = some j → ∀ b, g.β k = some b → g'.β j = some b) :
  ∀ (cs : List M) {vs : List Value} {ds : List M}, RepL g vs cs → mapHs f cs = some ds → RepL g' vs ds
 | [], vs, ds, h, hm => by rw [h.nil_inv]; simp [mapHs] at hm; subst hm; exact .nil _
 | c :: cs, vs, ds, h, hm => by
  obtain ⟨v, r, rfl, hv, hr⟩ := h.cons_inv
  simp only [mapHs] at hm
  split at hm
  ·rename_i x ys hx hys
   cases hm
   exact .cons (mapH_rep hD hβ c hv hx) (mapHs_rep hD hβ cs hr hys)
  ·cases hm
end
theorem mapHs_get {f : Nat → Option Nat} : ∀ {cs ds : List M}, mapHs f cs = some ds → cs.length = ds.length ∧ ∀ (j : Nat) (d : M), ds[j]? = some d → ∃ c, cs[j]? = some c ∧ mapH f c = some d
 | [], ds, h => by simp [mapHs] at h; subst h; exact ⟨rfl, fun j d hd => by simp at hd⟩
 | c :: cs, ds, h => by
  simp only [mapHs] at h
  split at h
  ·rename_i x ys hx hys
   cases h
   obtain ⟨hl, hg⟩ := mapHs_get hys
   refine ⟨by simp [hl], fun j d hd => ?_⟩
   cases j with
   | zero => simp at hd; subst hd; exact ⟨c, rfl, hx⟩
   | succ j => simpa using hg j d (by simpa using hd)
  ·cases h
theorem mapH_owned {f : Nat → Option Nat} {m m' : M} (h : mapH f m = some m') (ho : isOwned m = true) : m' = m := by
 cases m <;> simp [isOwned] at ho <;> simp [mapH] at h <;> exact h.symm
theorem mapH_cell {g g' : Gh} {f : Nat → Option Nat} (hD : g.D.le g'.D) (hβ : ∀ k j, f k = some j → ∀ b, g.β k = some b → g'.β j = some b) {w w' : World} {m m' : M} {v : Value} {F : Foot} (h : OwC g w m v F)
  (hm : mapH f m = some m') (k : Keep g.D g'.D w w' F) : OwC g' w' m' v F := by
 by_cases ho : isOwned m = true
 ·rw [mapH_owned hm ho]
  rcases h with h | ⟨h, hF⟩
  ·exact .inl (h.keep hD k)
  ·cases h <;> simp [isOwned] at ho
 ·obtain ⟨h, hF⟩ := h.cell (by simpa using ho)
  exact .inr ⟨mapH_rep hD hβ m h hm, hF⟩
theorem OwC.only {g g' : Gh} (hD : g.D.le g'.D) {hs hs' : List Nat} {w w' : World} {m : M} {v : Value} {F : Foot} (he : ∀ k, memN k hs = false) (h : OwC (g.only hs) w m v F)
  (k : Keep g.D g'.D w w' F) : OwC (g'.only hs') w' m v F := by
 refine h.keep (g := g.only hs) (g' := g'.only hs') hD (fun q _ b hb => ?_) k
 unfold Gh.only at hb
 simp only [he q] at hb
 cases hb
theorem mapB_ok {g g' : Gh} {f : Nat → Option Nat} (hD : g.D.le g'.D) (hβ : ∀ k j, f k = some j → ∀ b, g.β k = some b → g'.β j = some b) {w w' : World} {o o' : M} {h : Hd} {F : Foot} (hb : BoxOk g w o h F)
  (hm : mapB f o = some o') (k : Keep g.D g'.D w w' F) : BoxOk g' w' o' h F := by
 cases hb with
 | os b ty vs cs A F hl hb hd hA hdis hF h =>
  simp only [mapB] at hm
  split at hm
  ·rename_i ds hds
   cases hm
   obtain ⟨hl', hg⟩ := mapHs_get hds
   have kb := k b ((hF b).2 (.inl rfl))
   refine .os b ty vs ds A F (hl.trans hl') (kb.1.trans hb) (fun j => (kb.2 j).trans (hd j)) (fun j x hx => by have := hA j x hx; omega) hdis hF fun j v d hv hdj => ?_
   obtain ⟨c, hc, hmc⟩ := hg j d hdj
   exact mapH_cell hD hβ (h j v c hv hc) hmc fun x hx => k x ((hF x).2 (.inr ⟨j, hx⟩))
  ·cases hm
 | oa0 z c hs F hF =>
  cases hs with
  | nil => simp [mapB] at hm; subst hm; exact .oa0 z c [] F hF
  | cons x r => simp [mapB] at hm
 | oae a q z hs F hF =>
  cases hs with
  | nil => simp [mapB] at hm; subst hm; exact .oae a q z [] F hF
  | cons x r => simp [mapB] at hm
 | oa b o c z hs' cur ty xs A F hb hd hs h1c h0 hc hz hA hdis hF h =>
  cases hs' with
  | cons x r => simp [mapB] at hm
  | nil =>
   simp [mapB] at hm; subst hm
   have kb := k b ((hF b).2 (.inl rfl))
   exact .oa b o c z [] cur ty xs A F (kb.1.trans hb) (fun j => (kb.2 j).trans (hd j)) hs h1c h0 hc hz hA hdis hF fun i j cs c v h1 h2 h3 =>
    (h i j cs c v h1 h2 h3).only hD (fun _ => rfl) fun x hx => k x ((hF x).2 (.inr ⟨i, j, hx⟩))
 | op v z xs F h ho => simp [mapB] at hm; subst hm; exact .op v z xs F (h.mono hD) (ho.keep k)
 | om b clock hs entries es A F hl hb hd hA hdis hF hk h =>
  cases hs with
  | cons x r => simp [mapB] at hm
  | nil =>
   simp [mapB] at hm; subst hm
   have kb := k b ((hF b).2 (.inl rfl))
   exact .om b clock [] entries es A F hl (kb.1.trans hb) (fun j => (kb.2 j).trans (hd j)) hA hdis hF hk fun i e kv h1 h2 =>
    (h i e kv h1 h2).only hD (fun _ => rfl) fun x hx => k x ((hF x).2 (.inr ⟨i, hx⟩))
theorem keep_refl (D : Dm) (w : World) (F : Foot) : Keep D D w w F := fun _ _ => ⟨rfl, fun _ => rfl⟩
theorem OwN.box {D : Dm} {w : World} {m : M} {v : Value} {F : Foot} (h : OwN D w m v F) (ho : isOwned m = true) :
  ∃ hd, (∀ g : Gh, g.D = D → BoxOk g w m hd F) ∧ ∀ (g' : Gh) (k : Nat), D.le g'.D → g'.β k = some hd → RepM g' v (handleOf k m) := by
 cases h with
 | leaf m v F h hF => cases h <;> simp [isOwned] at ho
 | os b ty vs cs A F hl hb hd hA hdis hF h =>
  exact ⟨.p b, fun g hg => by subst hg; exact .os b ty vs cs A F hl hb hd hA hdis hF fun j v c hv hc => .inl (h j v c hv hc), fun g' k _ hk => .ptr b k 0 hk⟩
 | oa0 z F hF => exact ⟨.s none z 0, fun g hg => .oa0 z 0 [] F hF, fun g' k _ hk => .sb0 z 0 k hk⟩
 | oae a q z F hF => exact ⟨.s (some (a, q)) z 0, fun g hg => .oae a q z [] F hF, fun g' k _ hk => .sbe a q a q z k 0 hk⟩
 | oa b o c z cur ty xs A F hb hd hs h1c h0 hc hz hA hdis hF h =>
  refine ⟨.s (some (b, o)) z c, fun g hg => by subst hg; exact .oa b o c z [] cur ty xs A F hb hd hs h1c h0 hc hz hA hdis hF fun i j cs c v h1 h2 h3 => .inl (h i j cs c v h1 h2 h3), fun g' k _ hk => ?_⟩
  simpa [handleOf] using RepM.sb b o z c k 0 xs.length hk (by omega) hc.2.1
 | op v z xs F h ho => exact ⟨.a v z, fun g hg => by subst hg; exact .op v z xs F h ho, fun g' k hD hk => .own v k z xs (h.mono hD) hk⟩
 | om b clock entries es A F hl hb hd hA hdis hF hk h =>
  exact ⟨.m b, fun g hg => by subst hg; exact .om b clock [] entries es A F hl hb hd hA hdis hF hk fun i e kv h1 h2 => .inl (h i e kv h1 h2), fun g' k _ hk => .mp b k hk⟩
theorem names_append (l l' : List (Nat × M)) : names (l ++ l') = names l ++ names l' := by simp [names]
structure Adopts (g : Gh) (w : World) (b : Nat) (l : List (Nat × M)) (hd : Nat → Hd) (φ : Nat → Foot) (F : Foot) : Prop where
 nm : ∀ k, k ∈ names l ↔ b ≤ k ∧ k < b + l.length
 box : ∀ k o, lookB l k = some o → ∀ g' : Gh, g'.D = g.D → BoxOk g' w o (hd k) (φ k)
 sub : ∀ k x, k ∈ names l → φ k x → F x
 dis : ∀ k k' x, k ∈ names l → k' ∈ names l → φ k x → φ k' x → k = k'
theorem Adopts.nil (g : Gh) (w : World) (b : Nat) (hd : Nat → Hd) (φ : Nat → Foot) (F : Foot) : Adopts g w b [] hd φ F :=
 ⟨fun k => by simp [names], fun k o h => by simp [lookB] at h, fun k x h => by simp [names] at h, fun k k' x h => by simp [names] at h⟩
theorem Adopts.append {g : Gh} {w : World} {b : Nat} {l l' : List (Nat × M)} {hd hd' : Nat → Hd} {φ φ' : Nat → Foot} {F F' G : Foot} (h : Adopts g w b l hd φ F) (h' : Adopts g w (b + l.length) l' hd' φ' F')
  (hF : ∀ x, F x → G x) (hF' : ∀ x, F' x → G x) (hd0 : ∀ x, F x → F' x → False) :
  Adopts g w b (l ++ l') (fun k => if k < b + l.length then hd k else hd' k) (fun k => if k < b + l.length then φ k else φ' k) G := by
 have c1 : ∀ k, k ∈ names l → k < b + l.length := fun k hk => ((h.nm k).1 hk).2
 have c2 : ∀ k, k ∈ names l' → ¬ k < b + l.length := fun k hk => by have := ((h'.nm k).1 hk).1; omega
 refine ⟨fun k => ?_, fun k o ho => ?_, fun k x hk hx => ?_, fun k k' x hk hk' hx hx' => ?_⟩
 ·rw [names_append, List.mem_append, h.nm, h'.nm, List.length_append]; omega
 ·rw [lookB_append] at ho
  cases e : lookB l k with
  | some o' =>
   rw [e] at ho; cases ho
   have := c1 k (lookB_mem e)
   simp only [this, if_true]
   exact h.box k _ e
  | none =>
   rw [e] at ho
   have := c2 k (lookB_mem ho)
   simp only [this, if_false]
   exact h'.box k _ ho
 ·rw [names_append, List.mem_append] at hk
  rcases hk with hk | hk
  ·simp only [c1 k hk, if_true] at hx; exact hF x (h.sub k x hk hx)
  ·simp only [c2 k hk, if_false] at hx; exact hF' x (h'.sub k x hk hx)
 ·rw [names_append, List.mem_append] at hk hk'
  rcases hk with hk | hk <;> rcases hk' with hk' | hk'
  ·simp only [c1 k hk, c1 k' hk', if_true] at hx hx'; exact h.dis k k' x hk hk' hx hx'
  ·simp only [c1 k hk, if_true] at hx; simp only [c2 k' hk', if_false] at hx'; exact (hd0 x (h.sub k x hk hx) (h'.sub k' x hk' hx')).elim
  ·simp only [c2 k hk, if_false] at hx; simp only [c1 k' hk', if_true] at hx'; exact (hd0 x (h.sub k' x hk' hx') (h'.sub k x hk hx)).elim
  ·simp only [c2 k hk, c2 k' hk', if_false] at hx hx'; exact h'.dis k k' x hk hk' hx hx'
def RepV (g : Gh) (r : M) (l : List (Nat × M)) (hd : Nat → Hd) (v : Value) (m : M) : Prop :=
 ∀ g'' : Gh, g.D.le g''.D → (∀ k, hasH k r = true → ∀ b, g.β k = some b → g''.β k = some b) → (∀ k ∈ names l, g''.β k = some (hd k)) → RepM g'' v m
theorem adopt_plain {b : Nat} {r : M} (ho : isOwned r = false) (h1 : ∀ cs, r ≠ .agg cs) (h2 : ∀ cs, r ≠ .tup cs) : adopt b r = (r, []) := by
 cases r <;> simp [isOwned] at ho <;> simp [adopt]
 ·rename_i cs; exact (h1 cs rfl).elim
 ·rename_i cs; exact (h2 cs rfl).elim
theorem adopt_leaf {g : Gh} {w : World} {r : M} {b : Nat} {m : M} {l : List (Nat × M)} {v : Value} {F : Foot} (h : RepR g w r v F) (ha : adopt b r = (m, l)) (ho : isOwned r = false) (h1 : ∀ cs, r ≠ .agg cs) (h2 : ∀ cs, r ≠ .tup cs) :
  ∃ hd φ, Adopts g w b l hd φ F ∧ RepV g r l hd v m := by
 rw [adopt_plain ho h1 h2] at ha
 cases ha
 refine ⟨fun _ => .m 0, fun _ _ => False, .nil _ _ _ _ _ _, fun g'' hD hβ _ => ?_⟩
 cases h with
 | leaf _ _ _ h hF => exact h.turn hD hβ
 | own _ _ _ ho' _ => rw [ho] at ho'; cases ho'
 | agg vs cs => exact (h1 _ rfl).elim
 | tup vs cs => exact (h2 _ rfl).elim
theorem adopt_own {g : Gh} {w : World} {r : M} {b : Nat} {m : M} {l : List (Nat × M)} {v : Value} {F : Foot} (h : RepR g w r v F) (ha : handleOf b r = m ∧ [(b, r)] = l) (ho : isOwned r = true) :
  ∃ hd φ, Adopts g w b l hd φ F ∧ RepV g r l hd v m := by
 obtain ⟨rfl, rfl⟩ := ha
 have hown : OwN g.D w r v F := by
  cases h with
  | leaf _ _ _ h hF => cases h <;> simp [isOwned] at ho
  | own _ _ _ _ h => exact h
  | agg => simp [isOwned] at ho
  | tup => simp [isOwned] at ho
 obtain ⟨hd, hb, hv⟩ := hown.box ho
 refine ⟨fun _ => hd, fun _ => F, ⟨fun k => by simp [names]; omega, fun k o hk => ?_, fun k x _ hx => hx, fun k k' x hk hk' _ _ => by simp [names] at hk hk'; rw [hk, hk']⟩, fun g'' hD _ h3 => hv g'' b hD (h3 b (by simp [names]))⟩
 simp only [lookB] at hk
 cases e : Nat.beq b k with
 | true => rw [e] at hk; cases hk; exact fun g' hg => hb g' hg
 | false => rw [e] at hk; cases hk
mutual
theorem adopt_rep {g : Gh} {w : World} : ∀ (r : M) {b : Nat} {m : M} {l : List (Nat × M)} {v : Value} {F : Foot}, RepR g w r v F → adopt b r = (m, l) →
  ∃ hd φ, Adopts g w b l hd φ F ∧ RepV g r l hd v m
 | .agg cs, b, m, l, v, F, h, ha => by
  simp only [adopt] at ha
  cases e : adopts b cs with
  | mk ds l' =>
   rw [e] at ha; cases ha
   obtain ⟨vs, A, rfl, hl, hdis, hF, hr⟩ : ∃ (vs : List Value) (A : Nat → Foot), v = .agg vs.toArray ∧ vs.length = cs.length ∧ (∀ i j x, A i x → A j x → i = j) ∧ (∀ j x, A j x → F x) ∧
     ∀ (j : Nat) (v : Value) (c : M), vs[j]? = some v → cs[j]? = some c → RepR g w c v (A j) := by
    cases h with
    | leaf _ _ _ h hF =>
     obtain ⟨vs, rfl, hl⟩ := h.agg_inv
     exact ⟨vs, fun _ _ => False, rfl, hl.1, fun i j x h => h.elim, fun j x h => h.elim, fun j v c hv hc => .leaf c v _ (hl.2 j v c hv hc) (fun _ h => h)⟩
    | own _ _ _ ho _ => simp [isOwned] at ho
    | agg vs _ A _ hl hA hdis hF h => exact ⟨vs, A, rfl, hl, hdis, fun j x hx => (hF x).2 ⟨j, hx⟩, h⟩
   obtain ⟨hd, φ, hA, hv⟩ := adopts_rep cs hl hdis hF hr e
   exact ⟨hd, φ, hA, fun g'' h1 h2 h3 => by
    have := hv g'' h1 (fun k hk => h2 k (by simpa [hasH] using hk)) h3
    exact .agg vs ds this.1 this.2⟩
 | .tup cs, b, m, l, v, F, h, ha => by
  simp only [adopt] at ha
  cases e : adopts b cs with
  | mk ds l' =>
   rw [e] at ha; cases ha
   obtain ⟨vs, A, rfl, hl, hdis, hF, hr⟩ : ∃ (vs : List Value) (A : Nat → Foot), v = .tuple vs.toArray ∧ vs.length = cs.length ∧ (∀ i j x, A i x → A j x → i = j) ∧ (∀ j x, A j x → F x) ∧
     ∀ (j : Nat) (v : Value) (c : M), vs[j]? = some v → cs[j]? = some c → RepR g w c v (A j) := by
    cases h with
    | leaf _ _ _ h hF =>
     obtain ⟨vs, rfl, hl⟩ := h.tup_inv
     exact ⟨vs, fun _ _ => False, rfl, hl.1, fun i j x h => h.elim, fun j x h => h.elim, fun j v c hv hc => .leaf c v _ (hl.2 j v c hv hc) (fun _ h => h)⟩
    | own _ _ _ ho _ => simp [isOwned] at ho
    | tup vs _ A _ hl hA hdis hF h => exact ⟨vs, A, rfl, hl, hdis, fun j x hx => (hF x).2 ⟨j, hx⟩, h⟩
   obtain ⟨hd, φ, hA, hv⟩ := adopts_rep cs hl hdis hF hr e
   exact ⟨hd, φ, hA, fun g'' h1 h2 h3 => by
    have := hv g'' h1 (fun k hk => h2 k (by simpa [hasH] using hk)) h3
    exact .tup vs ds this.1 this.2⟩
 | .any, b, m, l, v, F, h, ha => adopt_leaf h ha rfl (by simp) (by simp)
 | .t _, b, m, l, v, F, h, ha => adopt_leaf h ha rfl (by simp) (by simp)
 | .tight _, b, m, l, v, F, h, ha => adopt_leaf h ha rfl (by simp) (by simp)
 | .cp _, b, m, l, v, F, h, ha => adopt_leaf h ha rfl (by simp) (by simp)
 | .clo _ _, b, m, l, v, F, h, ha => adopt_leaf h ha rfl (by simp) (by simp)
 | .own _ _ _, b, m, l, v, F, h, ha => adopt_leaf h ha rfl (by simp) (by simp)
 | .ptr _ _, b, m, l, v, F, h, ha => adopt_leaf h ha rfl (by simp) (by simp)
 | .pe _ _ _, b, m, l, v, F, h, ha => adopt_leaf h ha rfl (by simp) (by simp)
 | .sb _ _ _ _, b, m, l, v, F, h, ha => adopt_leaf h ha rfl (by simp) (by simp)
 | .mp _, b, m, l, v, F, h, ha => adopt_leaf h ha rfl (by simp) (by simp)
 | .os cs, b, m, l, v, F, h, ha => adopt_own h (by simpa [adopt, handleOf] using ha) rfl
 | .oa hs z xs, b, m, l, v, F, h, ha => adopt_own h (by simpa [adopt, handleOf] using ha) rfl
 | .op z xs, b, m, l, v, F, h, ha => adopt_own h (by simpa [adopt, handleOf] using ha) rfl
 | .om hs es, b, m, l, v, F, h, ha => adopt_own h (by simpa [adopt, handleOf] using ha) rfl
theorem adopts_rep {g : Gh} {w : World} : ∀ (cs : List M) {b : Nat} {ds : List M} {l : List (Nat × M)} {vs : List Value} {A : Nat → Foot} {F : Foot}, vs.length = cs.length →
  (∀ i j x, A i x → A j x → i = j) → (∀ j x, A j x → F x) → (∀ (j : Nat) (v : Value) (c : M), vs[j]? = some v → cs[j]? = some c → RepR g w c v (A j)) → adopts b cs = (ds, l) →
  ∃ hd φ, Adopts g w b l hd φ F ∧ ∀ g'' : Gh, g.D.le g''.D → (∀ k, hasHs k cs = true → ∀ b, g.β k = some b → g''.β k = some b) → (∀ k ∈ names l, g''.β k = some (hd k)) → RepL g'' vs ds
 | [], b, ds, l, vs, A, F, hl, _, _, _, ha => by
  simp only [adopts, Prod.mk.injEq] at ha
  obtain ⟨rfl, rfl⟩ := ha
  have : vs = [] := List.eq_nil_of_length_eq_zero (by simpa using hl)
  subst this
  exact ⟨fun _ => .m 0, fun _ _ => False, .nil _ _ _ _ _ _, fun g'' _ _ _ => .nil g''⟩
 | c :: cs, b, ds, l, vs, A, F, hl, hdis, hF, hr, ha => by
  simp only [adopts] at ha
  cases e1 : adopt b c with
  | mk x l1 =>
   rw [e1] at ha
   simp only at ha
   cases e2 : adopts (b + l1.length) cs with
   | mk xs l2 =>
    rw [e2] at ha
    simp only [Prod.mk.injEq] at ha
    obtain ⟨rfl, rfl⟩ := ha
    cases vs with
    | nil => simp at hl
    | cons v vs =>
     obtain ⟨hd1, φ1, hA1, hv1⟩ := adopt_rep c (hr 0 v c rfl rfl) e1
     obtain ⟨hd2, φ2, hA2, hv2⟩ := adopts_rep cs (vs := vs) (A := fun j => A (j + 1)) (F := fun x => ∃ j, A (j + 1) x) (by simpa using hl) (fun i j x h h' => by have := hdis _ _ x h h'; omega)
      (fun j x h => ⟨j, h⟩) (fun j u d hu hd => hr (j + 1) u d (by simpa using hu) (by simpa using hd)) e2
     refine ⟨_, _, Adopts.append hA1 hA2 (hF 0) (fun x ⟨j, hj⟩ => hF (j + 1) x hj) (fun x h0 ⟨j, hj⟩ => by have := hdis _ _ x h0 hj; omega), fun g'' h1 h2 h3 => ?_⟩
     refine .cons (hv1 g'' h1 (fun k hk => h2 k (by simp [hasHs, hk])) fun k hk => ?_) (hv2 g'' h1 (fun k hk => h2 k (by simp [hasHs, hk])) fun k hk => ?_)
     ·have := h3 k (by rw [names_append]; exact List.mem_append_left _ hk)
      rw [if_pos ((hA1.nm k).1 hk).2] at this; exact this
     ·have := h3 k (by rw [names_append]; exact List.mem_append_right _ hk)
      rw [if_neg (by have := ((hA2.nm k).1 hk).1; omega)] at this; exact this
end
end Go.Bm
/- Operations that make boxes, that write them. -/
namespace Go.Bm
open Go.RowKit (Below)
theorem Belows.trans {X : Foot} {a b c : World} (h : Belows X a b) (k : Belows X b c) : Belows X a c :=
 ⟨k.os.trans h.os, k.tape.trans h.tape, k.output.trans h.output, Nat.le_trans h.size k.size, fun i hi hx => (k.block i (Nat.lt_of_lt_of_le hi h.size) hx).trans (h.block i hi hx)⟩
theorem Belows.next {X : Foot} {a b c : World} (h : Belows X a b) (k : Below b.heap.size b c) : Belows X a c :=
 h.trans ⟨k.os, k.tape, k.output, k.size, fun i hi _ => k.block i hi⟩
theorem Belows.row {X : Foot} {a w : World} (h : Belows X a w) {b : Nat} (hb : a.heap.size ≤ b ∨ X b) (cs : Array Value) : Belows X a (w.setRow b cs) :=
 ⟨h.os, h.tape, h.output, by simpa [World.setRow] using h.size, fun i hi hx => by
  have : i ≠ b := fun e => by subst e; rcases hb with hb | hb <;> first | omega | exact hx hb
  rw [setRow_other w b i cs this]; exact h.block i hi hx⟩
theorem below_alloc (w : World) (o : Obj) : Below w.heap.size w (w.alloc o) := (Below.refl _ w).alloc (Nat.le_refl _) o
theorem below_drew (w : World) : Below w.heap.size w w.drew := (Below.refl _ w).drew
theorem below_drew_alloc (w : World) (o : Obj) : Below w.heap.size w (w.drew.alloc o) := (below_drew w).alloc (Nat.le_refl _) o
theorem below_near {w w' : World} (h : Near w w') : Below w.heap.size w w' := by
 rcases h with rfl | rfl
 ·exact Below.refl _ _
 ·exact below_drew w
theorem Dm.inW_lt {D : Dm} {w : World} (h : D.inW w) {b j : Nat} {v : Value} (hd : D b j = some v) : b < w.heap.size :=
 World.block_lt_of_cell? w ⟨b, j, none⟩ (h b j v hd)
theorem Dm.inW_below {D : Dm} {w w' : World} (h : D.inW w) (hb : Below w.heap.size w w') : D.inW w' := fun b j v hd => by
 rw [hb.cell (p := ⟨b, j, none⟩) (Dm.inW_lt h hd)]
 exact h b j v hd
theorem Dm.none_of_ge {D : Dm} {w : World} (h : D.inW w) {b : Nat} (hb : w.heap.size ≤ b) (j : Nat) : D b j = none := by
 cases e : D b j with
 | none => rfl
 | some v => have := Dm.inW_lt h e; omega
theorem keep_below {D : Dm} {w w' : World} {F : Foot} (hF : ∀ x, F x → x < w.heap.size) (h : Below w.heap.size w w') : Keep D D w w' F := fun x hx => ⟨h.block x (hF x hx), fun _ => rfl⟩
section
variable {P : Program} {D0 : Dm} {w0 : World} {X : Foot} {DF : Env} {g : Gh} {st : St} {a : Act} {w : World}
theorem FInv.lt (h : FInv DF D0 w0 X g st a w) {k : Nat} {o : M} (hk : lookB st.bx k = some o) : ∀ x, g.φ k x → x < w.heap.size := by
 obtain ⟨hd, _, hok⟩ := h.bx k o hk
 exact hok.lt
theorem Does.plain (h : FInv DF D0 w0 X g st a w) {w' : World} (hn : Near w w') {e : Eff} (h1 : e.new = []) (h2 : e.put = []) {v : Value} (hv : RepM g v e.val) : Does w0 X D0 g st.bx w e g v w' where
 D := Dm.le_refl _
 inW := Dm.inW_below h.dw (below_near hn)
 β := fun _ _ => rfl
 val := hv
 box := fun k o hk => by rw [h1, h2] at hk; rcases hk with hk | ⟨_, hk⟩ <;> simp [lookB] at hk
 keep := fun k o hk _ _ _ => ⟨rfl, keep_below (h.lt hk) (below_near hn)⟩
 src := fun k b hk => by rw [h1, h2] at hk; simp [names] at hk
 dis := fun k k' b hk => by rw [h1, h2] at hk; simp [names] at hk
 dnew := h.dnew
 below := h.below.next (below_near hn)
def Gh.at (g : Gh) (d : Nat) (hd : Hd) (F : Foot) : Gh := ⟨g.D, fun k => if k = d then some hd else g.β k, fun k => if k = d then F else g.φ k⟩
theorem Does.new (h : FInv DF D0 w0 X g st a w) {w' : World} {e : Eff} {d : Nat} {o : M} (h1 : e.new = [(d, o)]) (h2 : e.put = []) (h3 : e.del = [])
  (hb : Below w.heap.size w w') {v : Value} {hd : Hd} {F : Foot} (hF : ∀ x, F x → w.heap.size ≤ x) (ho : BoxOk (g.at d hd F) w' o hd F) (hv : RepM (g.at d hd F) v e.val) : Does w0 X D0 g st.bx w e (g.at d hd F) v w' where
 D := Dm.le_refl _
 inW := Dm.inW_below h.dw hb
 β := fun k hk => by
  have : k ≠ d := fun e => by subst e; rw [h1] at hk; simp [names] at hk
  show (if k = d then _ else _) = _
  rw [if_neg this]
 val := hv
 box := fun k o' hk => by
  rw [h1, h2] at hk
  rcases hk with hk | ⟨_, hk⟩
  ·simp only [lookB] at hk
   cases e : Nat.beq d k with
   | false => rw [e] at hk; cases hk
   | true =>
    rw [e] at hk; cases hk
    have := nbeq_t e
    subst this
    refine ⟨hd, by show (if d = d then _ else _) = _; rw [if_pos rfl], ?_⟩
    have : (g.at d hd F).φ d = F := by show (if d = d then _ else _) = _; rw [if_pos rfl]
    rw [this]; exact ho
  ·simp [lookB] at hk
 keep := fun k o' hk _ _ hn => by
  have : k ≠ d := fun e => by subst e; rw [h1] at hn; simp [names] at hn
  refine ⟨by show (if k = d then _ else _) = _; rw [if_neg this], keep_below (h.lt hk) hb⟩
 src := fun k b hk hb' => by
  rw [h1, h2] at hk
  simp [names] at hk
  subst hk
  have : (g.at k hd F).φ k b = F b := by show (if k = k then F else g.φ k) b = F b; rw [if_pos rfl]
  rw [this] at hb'
  exact .inl (hF b hb')
 dis := fun k k' b hk hk' _ _ => by
  rw [h1, h2] at hk hk'
  simp [names] at hk hk'
  rw [hk, hk']
 dnew := h.dnew
 below := h.below.next hb
theorem Does.mkBox (h : FInv DF D0 w0 X g st a w) {e : Eff} {d : Nat} {vs : List Value} {cs : List M} (ty : TypeId) (h1 : e.new = [(d, .os cs)]) (h2 : e.put = []) (h3 : e.del = []) (h4 : e.val = .ptr d 0)
  (hr : ∀ g' : Gh, g.D.le g'.D → (∀ k, k ≠ d → ∀ b, g.β k = some b → g'.β k = some b) → RepL g' vs cs) :
  ∃ g', Does w0 X D0 g st.bx w e g' (.pointer (some ⟨w.heap.size, 0, none⟩)) (w.alloc (.cells vs.toArray ty)) := by
 let F : Foot := fun x => x = w.heap.size
 have hr' := hr (g.at d (.p w.heap.size) F) (Dm.le_refl _) (fun k hk b hb => by show (if k = d then _ else _) = _; rw [if_neg hk]; exact hb)
 refine ⟨g.at d (.p w.heap.size) F, Does.new h h1 h2 h3 (below_alloc w _) (fun x hx => by rw [hx]; exact Nat.le_refl _) ?_ ?_⟩
 ·refine .os w.heap.size ty vs cs (fun _ _ => False) F hr'.1 (heap_alloc_new w _) (fun j => Dm.none_of_ge h.dw (Nat.le_refl _) j) (fun j x h => h.elim) (fun i j x h => h.elim) (fun x => ?_) (fun j v c hv hc => .inr ⟨hr'.2 j v c hv hc, fun _ h => h⟩)
  constructor
  ·exact fun h => .inl h
  ·rintro (h | ⟨_, h⟩)
   ·exact h
   ·exact h.elim
 ·rw [h4]; exact .ptr _ _ _ (by show (if d = d then _ else _) = _; rw [if_pos rfl])
theorem lay_get {α : Type} {l us : List α} {off : Nat} (h : off + us.length ≤ l.length) (j : Nat) :
  (l.take off ++ us ++ l.drop (off + us.length))[j]? = if j < off then l[j]? else if j < off + us.length then us[j - off]? else l[j]? := by
 have e1 : (l.take off).length = off := by rw [List.length_take]; omega
 by_cases h1 : j < off
 ·rw [if_pos h1, List.append_assoc, List.getElem?_append_left (by omega), List.getElem?_take, if_pos h1]
 ·rw [if_neg h1]
  by_cases h2 : j < off + us.length
  ·rw [if_pos h2, List.append_assoc, List.getElem?_append_right (by omega), e1, List.getElem?_append_left (by omega)]
  ·rw [if_neg h2, List.getElem?_append_right (by rw [List.length_append, e1]; omega), List.length_append, e1, List.getElem?_drop]
   congr 1; omega
theorem keep_row {D : Dm} {w : World} {b : Nat} (cs : Array Value) {F : Foot} (h : ¬ F b) : Keep D D w (w.setRow b cs) F := fun x hx =>
 ⟨setRow_other w b x cs (fun e => by subst e; exact h hx), fun _ => rfl⟩
theorem inW_row {D : Dm} {w : World} (h : D.inW w) {b : Nat} (hb : ∀ j, D b j = none) (cs : Array Value) : D.inW (w.setRow b cs) := fun b' j v hd => by
 have : b' ≠ b := fun e => by subst e; rw [hb j] at hd; cases hd
 rw [World.cell?_of_block (w := w) (a := ⟨b', j, none⟩) (setRow_other w b b' _ this)]
 exact h b' j v hd
def Gh.foot (g : Gh) (k : Nat) (F : Foot) : Gh := ⟨g.D, g.β, fun j => if j = k then F else g.φ j⟩
theorem Does.put (h : FInv DF D0 w0 X g st a w) {e : Eff} {k : Nat} {o o' : M} {hd : Hd} {b : Nat} {row : Array Value} {F : Foot} (hk : lookB st.bx k = some o) (hrb : k < RB) (hβ : g.β k = some hd)
  (hF : ∀ x, F x → g.φ k x) (hb : g.φ k b) (hD : ∀ j, g.D b j = none) (h1 : e.new = []) (h2 : e.put = [(k, o')]) (h3 : e.del = []) {v : Value} (hv : RepM (g.foot k F) v e.val)
  (hok : BoxOk (g.foot k F) (w.setRow b row) o' hd F) : Does w0 X D0 g st.bx w e (g.foot k F) v (w.setRow b row) where
 D := Dm.le_refl _
 inW := inW_row h.dw hD row
 β := fun _ _ => rfl
 val := hv
 box := fun q oq hq => by
  rw [h1, h2] at hq
  rcases hq with hq | ⟨_, hq⟩
  ·simp [lookB] at hq
  ·simp only [lookB] at hq
   cases e : Nat.beq k q with
   | false => rw [e] at hq; cases hq
   | true =>
    rw [e] at hq; cases hq
    have := nbeq_t e
    subst this
    have e2 : (g.foot k F).φ k = F := by show (if k = k then _ else _) = _; rw [if_pos rfl]
    exact ⟨hd, hβ, by rw [e2]; exact hok⟩
 keep := fun q oq hq _ hnp _ => by
  have hne : q ≠ k := fun e => by subst e; rw [h2] at hnp; simp [names] at hnp
  refine ⟨by show (if q = k then _ else _) = _; rw [if_neg hne], keep_row row fun hx => hne (h.sep q k oq o b hq hk hx hb)⟩
 src := fun q x hq hx => by
  rw [h1, h2] at hq
  simp [names] at hq
  subst hq
  have e2 : (g.foot q F).φ q = F := by show (if q = q then _ else _) = _; rw [if_pos rfl]
  rw [e2] at hx
  exact .inr ⟨q, o, hk, .inr (by rw [h2]; simp [names]), fun _ => hrb, hF x hx⟩
 dis := fun q q' x hq hq' _ _ => by
  rw [h1, h2] at hq hq'
  simp [names] at hq hq'
  rw [hq, hq']
 dnew := h.dnew
 below := h.below.row (h.new k o b hk hrb hb) row
theorem allHs_get {hs : List Nat} {cs : List M} (h : allHs hs cs = true) {j : Nat} {c : M} (hc : cs[j]? = some c) : hsIn hs c = true := by
 induction cs generalizing j with
 | nil => simp at hc
 | cons x r ih =>
  simp only [allHs, Bool.and_eq_true] at h
  cases j with
  | zero => simp at hc; subst hc; exact h.1
  | succ j => exact ih h.2 (by simpa using hc)
theorem hsIn_only {g : Gh} {hs : List Nat} {c : M} {v : Value} (hc : hsIn hs c = true) (h : RepM g v c) : RepM (g.only hs) v c :=
 h.turn (g := g) (g' := g.only hs) (Dm.le_refl g.D) fun k hk b hb => by
  have hm : memN k hs = true := by
   cases c <;> first | (have hk' : Nat.beq _ k = true := hk; rw [← nbeq_t hk']; exact hc) | (cases hk; done) | (cases hc; done)
  show (if memN k hs = true then _ else _) = _
  rw [if_pos hm]; exact hb
theorem stoB_run (h : FInv DF D0 w0 X g st a w) {t : TypeId} {p x : M} {vp vx : Value} {os : List O} {r : Res} (hp : RepM g vp p) (hx : RepM g vx x) (hs : stoB P (lookB st.bx) t p x os = some r) (hps : ∀ p ∈ r.ps, p) :
  ∃ w' g', (Instr.storeAt t vp vx).run P w = .ok () w' ∧ Does w0 X D0 g st.bx w r.eff g' undef w' ∧ r.eff.stop = none ∧ r.cs = [] := by
 unfold stoB at hs
 split at hs
 case h_2 => cases hs
 rename_i ds n hc hn
 cases hb : Nat.beq ds.length n with
 | false => rw [hb] at hs; cases hs
 | true =>
  rw [hb] at hs
  simp only [cond_true] at hs
  obtain ⟨hrd, hac⟩ := cellsM_rep hx hc
  have hlen := nbeq_t hb
  have hvl : vx.cells.toList.length = n := by rw [hrd.1, hlen]
  have hsz : vx.cells.size = n := by rw [← Array.length_toList]; exact hvl
  split at hs
  ·rename_i k off
   cases hrb : Nat.ble RB k with
   | true => rw [hrb] at hs; cases hs
   | false =>
    rw [hrb] at hs
    simp only [cond_false] at hs
    have hkr : k < RB := by
     rcases Nat.lt_or_ge k RB with h | h
     ·exact h
     ·rw [Nat.ble_eq_true_of_le h] at hrb; cases hrb
    split at hs
    ·rename_i cs hk
     split at hs
     ·rename_i cs' hl
      cases hs
      obtain ⟨b, rfl, hβ⟩ := hp.ptr_inv
      obtain ⟨hd, hβ', hok⟩ := h.bx k _ hk
      rw [hβ] at hβ'; cases hβ'
      generalize hφ : g.φ k = F at hok
      cases hok with
      | os b ty vs cs A F hlv hh hD hA hdis hF hr =>
       obtain ⟨hfit, rfl⟩ := lay_spec hl
       have hst := run_storeCells_at P b off ty vx.cells.toList 0 vs.toArray w hh (by rw [Nat.add_zero, hvl, List.size_toArray, hlv, ← hlen]; exact hfit) (hrd.one hac)
       simp only [Nat.add_zero, List.toList_toArray] at hst
       have eA : ∀ j x, (if j < off ∨ off + ds.length ≤ j then A j x else False) → A j x := fun j x hx => by split at hx <;> first | exact hx | exact hx.elim
       refine ⟨w.setRow b (vs.take off ++ vx.cells.toList ++ vs.drop (off + vx.cells.toList.length)).toArray, _, ?_, Does.put h (F := fun x => x = b ∨ ∃ j, if j < off ∨ off + ds.length ≤ j then A j x else False) hk hkr hβ (fun x hx => by
         rw [hφ]
         rcases hx with hx | ⟨j, hx⟩
         ·exact (hF x).2 (.inl hx)
         ·exact (hF x).2 (.inr ⟨j, eA j x hx⟩)) (by rw [hφ]; exact (hF b).2 (.inl rfl)) hD rfl rfl rfl (.tup [] [] rfl (fun j v c h => by simp at h))
        (.os b ty (vs.take off ++ vx.cells.toList ++ vs.drop (off + vx.cells.toList.length)) _ (fun j x => if j < off ∨ off + ds.length ≤ j then A j x else False) _ ?_ (setRow_heap w b _ _ _ _ hh) hD (fun j x hx => ?_) (fun i j x hx hy => hdis i j x (eA i x hx) (eA j x hy)) (fun x => Iff.rfl) (fun j v c hv hc => ?_)), rfl, rfl⟩
       ·simp [Instr.storeAt, Instr.sureAddr, storeVar, run_sizeOf hn, hsz, hst]
       ·simp only [List.length_append, List.length_take, List.length_drop]; rw [hvl, hlv]; omega
       ·have := hA j x (eA j x hx)
        simp only [List.length_append, List.length_take, List.length_drop]
        exact ⟨by omega, this.2⟩
       ·have e1 : off + vx.cells.toList.length ≤ vs.length := by rw [hvl, hlv, ← hlen]; exact hfit
        rw [lay_get e1] at hv
        rw [lay_get hfit] at hc
        rw [hvl, ← hlen] at hv
        by_cases q1 : j < off
        ·rw [if_pos q1] at hv hc
         refine ((hr j v c hv hc).keep (g' := g.foot k _) (w' := w.setRow b (vs.take off ++ vx.cells.toList ++ vs.drop (off + vx.cells.toList.length)).toArray) (Dm.le_refl _) (fun _ _ _ h => h) (keep_row _ fun hx => (hA j b hx).2 rfl)).imp (fun h => ?_) (fun h => ⟨h.1, fun x hx => h.2 x (eA j x hx)⟩)
         exact h.foot fun x => by simp [q1]
        ·rw [if_neg q1] at hv hc
         by_cases q2 : j < off + ds.length
         ·rw [if_pos q2] at hv hc
          refine .inr ⟨(hrd.2 _ v c hv hc).turn (g := g) (g' := g.foot k _) (Dm.le_refl g.D) (fun _ _ _ h => h), fun x hx => ?_⟩
          simp only at hx
          rw [if_neg (by omega)] at hx; exact hx
         ·rw [if_neg q2] at hv hc
          refine ((hr j v c hv hc).keep (g' := g.foot k _) (w' := w.setRow b (vs.take off ++ vx.cells.toList ++ vs.drop (off + vx.cells.toList.length)).toArray) (Dm.le_refl _) (fun _ _ _ h => h) (keep_row _ fun hx => (hA j b hx).2 rfl)).imp (fun h => ?_) (fun h => ⟨h.1, fun x hx => h.2 x (eA j x hx)⟩)
          exact h.foot fun x => by rw [if_pos (.inr (by omega))]
     ·cases hs
    ·cases hs
  ·rename_i k i off
   cases hrb : Nat.ble RB k with
   | true => rw [hrb] at hs; cases hs
   | false =>
    rw [hrb] at hs
    simp only [cond_false] at hs
    have hkr : k < RB := by
     rcases Nat.lt_or_ge k RB with h | h
     ·exact h
     ·rw [Nat.ble_eq_true_of_le h] at hrb; cases hrb
    split at hs
    ·rename_i hs' z xs cs os' hk
     cases hal : allHs hs' ds with
     | false => rw [hal] at hs; cases hs
     | true =>
      rw [hal] at hs
      simp only [cond_true] at hs
      split at hs
      ·rename_i cs' hl
       cases hs
       have hcs : xs[i]? = some cs := hps _ (by simp)
       obtain ⟨b, o, z1, c, rfl, hβ⟩ := hp.pe_inv
       obtain ⟨hd, hβ', hok⟩ := h.bx k _ hk
       rw [hβ] at hβ'; cases hβ'
       generalize hφ : g.φ k = F at hok
       cases hok with
       | oae a q z hs F hF => simp at hcs
       | oa b o c _ _ cur ty _ A F hh hD hsz' h1c h0 hc' hz hA hdis hF hr =>
        obtain ⟨hfit, rfl⟩ := lay_spec hl
        have hil : i < xs.length := (List.getElem?_eq_some_iff.1 hcs).1
        have hzl := hz i cs hcs
        have hup : (i + 1) * z ≤ c * z := Nat.mul_le_mul_right z (by omega)
        have hup' : i * z + z ≤ c * z := by rw [Nat.add_mul] at hup; omega
        have hin : o + (i * z + off) + vx.cells.toList.length ≤ cur.toList.length := by rw [hvl, Array.length_toList]; omega
        have hst := run_storeCells_at P b (o + (i * z + off)) ty vx.cells.toList 0 cur w hh (by rw [Nat.add_zero, ← Array.length_toList (xs := cur)]; exact hin) (hrd.one hac)
        simp only [Nat.add_zero] at hst
        let A' : Nat → Nat → Foot := fun i' j x => if i' = i ∧ off ≤ j ∧ j < off + ds.length then False else A i' j x
        have eA : ∀ i' j x, A' i' j x → A i' j x := fun i' j x hx => by
         have hx' : (if i' = i ∧ off ≤ j ∧ j < off + ds.length then False else A i' j x) := hx
         split at hx' <;> first | exact hx' | exact hx'.elim
        have hxl : (xs.set i (cs.take off ++ ds ++ cs.drop (off + ds.length))).length = xs.length := by simp
        have hrowl : (cur.toList.take (o + (i * z + off)) ++ vx.cells.toList ++ cur.toList.drop (o + (i * z + off) + vx.cells.toList.length)).length = cur.size := by
         simp only [List.length_append, List.length_take, List.length_drop]
         rw [Array.length_toList (xs := cur)] at hin ⊢
         omega
        refine ⟨w.setRow b (cur.toList.take (o + (i * z + off)) ++ vx.cells.toList ++ cur.toList.drop (o + (i * z + off) + vx.cells.toList.length)).toArray, _, ?_, Does.put h (F := fun x => x = b ∨ ∃ i' j, A' i' j x) hk hkr hβ (fun x hx => by
          rw [hφ]
          rcases hx with hx | ⟨i', j, hx⟩
          ·exact (hF x).2 (.inl hx)
          ·exact (hF x).2 (.inr ⟨i', j, eA i' j x hx⟩)) (by rw [hφ]; exact (hF b).2 (.inl rfl)) hD rfl rfl rfl (.tup [] [] rfl (fun j v c h => by simp at h))
         (.oa b o c z hs' (cur.toList.take (o + (i * z + off)) ++ vx.cells.toList ++ cur.toList.drop (o + (i * z + off) + vx.cells.toList.length)).toArray ty _ A' _ (setRow_heap w b _ _ _ _ hh) hD (by rw [List.size_toArray, hrowl]; exact hsz') (fun u hu => by
           rw [List.toList_toArray] at hu
           rcases List.mem_append.1 hu with hu | hu
           ·rcases List.mem_append.1 hu with hu | hu
            ·exact h1c u (List.mem_of_mem_take hu)
            ·exact hrd.one hac u hu
           ·exact h1c u (List.mem_of_mem_drop hu)) h0 (by rw [hxl]; exact hc') (fun i' ds' hi' => ?_) (fun i' j x hx => by rw [hxl]; exact hA i' j x (eA i' j x hx))
          (fun i1 j1 i2 j2 x hx hy => hdis i1 j1 i2 j2 x (eA i1 j1 x hx) (eA i2 j2 x hy)) (fun x => Iff.rfl) (fun i' j ds' d v hi' hj hv => ?_)), rfl, rfl⟩
        ·simp [Instr.storeAt, Instr.sureAddr, storeVar, run_sizeOf hn, hsz, hst]
        ·by_cases e : i' = i
         ·subst e
          rw [List.getElem?_set_self hil] at hi'
          cases hi'
          simp only [List.length_append, List.length_take, List.length_drop]; omega
         ·rw [List.getElem?_set_ne (fun e' => e e'.symm)] at hi'
          exact hz i' ds' hi'
        ·rw [List.getElem?_toArray, lay_get hin, hvl, ← hlen] at hv
         have others : ¬ (i' = i ∧ off ≤ j ∧ j < off + ds.length) → (xs[i']? = some ds' ∨ (i' = i ∧ ∃ y, cs[j]? = some y ∧ y = d)) → cur.toList[o + (i' * z + j)]? = some v → OwC ((g.foot k fun x => x = b ∨ ∃ i' j, A' i' j x).only hs') (w.setRow b (cur.toList.take (o + (i * z + off)) ++ vx.cells.toList ++ cur.toList.drop (o + (i * z + off) + vx.cells.toList.length)).toArray) d v (A' i' j) := by
          intro hno hor hv'
          rw [Array.getElem?_toList] at hv'
          have hold : OwC (g.only hs') w d v (A i' j) := by
           rcases hor with hx | ⟨rfl, y, hy, rfl⟩
           ·exact hr i' j ds' d v hx hj hv'
           ·exact hr i' j cs y v hcs hy hv'
          refine (hold.keep (g' := (g.foot k fun x => x = b ∨ ∃ i' j, A' i' j x).only hs') (Dm.le_refl _) (fun _ _ _ h => h) (keep_row _ fun hx => (hA i' j b hx).2 rfl)).imp (fun h => h.foot fun x => ?_) (fun h => ⟨h.1, fun x hx => h.2 x (eA i' j x hx)⟩)
          show A i' j x ↔ (if i' = i ∧ off ≤ j ∧ j < off + ds.length then False else A i' j x)
          rw [if_neg hno]
         have hjz : j < z := by
          have h1 := (List.getElem?_eq_some_iff.1 hj).1
          by_cases e : i' = i
          ·subst e
           rw [List.getElem?_set_self hil] at hi'
           cases hi'
           simp only [List.length_append, List.length_take, List.length_drop] at h1; omega
          ·rw [List.getElem?_set_ne (fun e' => e e'.symm)] at hi'
           rw [hz i' ds' hi'] at h1; exact h1
         by_cases e : i' = i
         ·subst e
          rw [List.getElem?_set_self hil] at hi'
          cases hi'
          rw [lay_get hfit] at hj
          by_cases q1 : j < off
          ·rw [if_pos (by omega)] at hv
           rw [if_pos q1] at hj
           exact others (by omega) (.inr ⟨rfl, d, hj, rfl⟩) hv
          ·rw [if_neg (by omega)] at hv
           rw [if_neg q1] at hj
           by_cases q2 : j < off + ds.length
           ·rw [if_pos (by omega)] at hv
            rw [if_pos q2] at hj
            rw [show o + (i' * z + j) - (o + (i' * z + off)) = j - off by omega] at hv
            refine .inr ⟨hsIn_only (g := g.foot k _) (allHs_get hal hj) ((hrd.2 _ v d hv hj).turn (g := g) (g' := g.foot k _) (Dm.le_refl g.D) (fun _ _ _ h => h)), fun x hx => ?_⟩
            have hx' : (if i' = i' ∧ off ≤ j ∧ j < off + ds.length then False else A i' j x) := hx
            rw [if_pos ⟨rfl, by omega, q2⟩] at hx'; exact hx'
           ·rw [if_neg (by omega)] at hv
            rw [if_neg q2] at hj
            exact others (by omega) (.inr ⟨rfl, d, hj, rfl⟩) hv
         ·rw [List.getElem?_set_ne (fun e' => e e'.symm)] at hi'
          have hi'l : i' < xs.length := (List.getElem?_eq_some_iff.1 hi').1
          have hne : o + (i' * z + j) < o + (i * z + off) ∨ o + (i * z + off) + ds.length ≤ o + (i' * z + j) := by
           rcases Nat.lt_or_gt_of_ne e with hlt | hgt
           ·have : (i' + 1) * z ≤ i * z := Nat.mul_le_mul_right z hlt
            rw [Nat.add_mul] at this; omega
           ·have : (i + 1) * z ≤ i' * z := Nat.mul_le_mul_right z hgt
            rw [Nat.add_mul] at this; omega
          rcases hne with hne | hne
          ·rw [if_pos hne] at hv
           exact others (fun h => e h.1) (.inl hi') hv
          ·rw [if_neg (by omega), if_neg (by omega)] at hv
           exact others (fun h => e h.1) (.inl hi') hv
      ·cases hs
    ·cases hs
  ·cases hs
end
end Go.Bm
/- append. -/
namespace Go.Bm
open Go.RowKit (Below)
section
variable {P : Program}
def sladdr (a : Option (Nat × Nat)) : Option Addr := a.map fun p => ⟨p.1, p.2, none⟩
theorem run_append_zero (w : World) (t ty e : TypeId) (i : TypeInfo) (ht : P.underlying t = some (.slice e)) (hi : P.info? e = some i)
  (base : Option Addr) (n c : Nat) (hnc : n ≤ c) (u : Value) (m : Nat) (hu : ∃ a k, u = .slice a m k) (hm : m = 0) :
  (Builtin.append_ #[t, t] ty #[.slice base n c, u]).run P w = .ok (.slice base n c) w := by
 obtain ⟨a, k, rfl⟩ := hu
 subst hm
 cases a <;> cases base <;> simp [Builtin.append_, run_underlying ht, sizeOf, typeInfo, hi, Builtin.lenOf, Builtin.firstCells, loadCells, loadCellsFrom, storeCells, hnc]
theorem zeroCells_one {zc : Array Value} (h : ∀ q ∈ zc.toList, q.oneCell' = true) (k : Nat) : ∀ q ∈ (Builtin.zeroCells zc k).toList, q.oneCell' = true := by
 intro q hq
 unfold Builtin.zeroCells at hq
 rw [Array.toList_map] at hq
 obtain ⟨i, hi, rfl⟩ := List.mem_map.1 hq
 have hi' : i < k * zc.size := by simpa using hi
 have h0 : 0 < zc.size := by
  rcases Nat.eq_zero_or_pos zc.size with e | e
  ·rw [e] at hi'; omega
  ·exact e
 have hlt : i % zc.size < zc.size := Nat.mod_lt _ h0
 rw [getElem!_pos zc _ hlt]
 exact h _ (Array.mem_toList_iff.2 (Array.getElem_mem hlt))
theorem app_rawA (w : World) (t ty e : TypeId) {i : TypeInfo} {zv : Value} (ht : P.underlying t = some (.slice e)) (hi : P.info? e = some i) (hz : i.zero = some zv) (hzs : zv.cells.size = i.size) (_h0 : 0 < i.size) (hz1 : ∀ q ∈ zv.cells.toList, q.oneCell' = true)
  (base : Option Addr) (n c : Nat) (fl : List Value) (hfl : fl.length = n * i.size) (hbase : base = none → c = 0) (hsp : ∀ ad, base = some ad → 0 < c → ad.spot = none) (hnc : n ≤ c)
  (holds : ∀ ad, base = some ad → ∀ j q, fl[j]? = some q → w.cell? (ad.add j) = some q)
  (ub : Option Addr) (m ku : Nat) (gl : List Value) (hgl : gl.length = m * i.size) (hub : ub = none → m = 0) (hnews : ∀ ad, ub = some ad → ∀ j q, gl[j]? = some q → w.cell? (ad.add j) = some q)
  (h1 : ∀ q ∈ gl, q.oneCell' = true) (hb : (n + m) * i.bytes ≤ 140737488355328) (hl : n + m ≤ 274877906944) :
  (m = 0 ∧ (Builtin.append_ #[t, t] ty #[.slice base n c, .slice ub m ku]).run P w = .ok (.slice base n c) w) ∨
  (0 < m ∧ n + m ≤ c ∧ ∃ b o, base = some ⟨b, o, none⟩ ∧ ∀ cur e', w.heap[b]? = some (.cells cur e' (0, 0)) → o + c * i.size ≤ cur.size →
   (Builtin.append_ #[t, t] ty #[.slice base n c, .slice ub m ku]).run P w =
    .ok (.slice base (n + m) c) (w.setRow b (cur.toList.take (o + n * i.size) ++ gl ++ cur.toList.drop (o + n * i.size + gl.length)).toArray)) ∨
  (0 < m ∧ c < n + m ∧ ∃ cap rest, n + m ≤ cap ∧ cap ≤ maxLen ∧ rest.length = (cap - (n + m)) * i.size ∧ (∀ q ∈ rest, q.oneCell' = true) ∧
   (Builtin.append_ #[t, t] ty #[.slice base n c, .slice ub m ku]).run P w =
    .ok (.slice (some ⟨w.heap.size, 0, none⟩) (n + m) cap) (w.drew.alloc (.cells (fl ++ gl ++ rest).toArray e))) := by
 rcases Nat.eq_zero_or_pos m with hm | hm
 ·exact .inl ⟨hm, run_append_zero w t ty e i ht hi _ n c hnc _ m ⟨_, _, rfl⟩ hm⟩
 refine .inr ?_
 obtain ⟨au, rfl⟩ : ∃ au, ub = some au := by
  cases ub with
  | none => have := hub rfl; omega
  | some p => exact ⟨p, rfl⟩
 have hnews' : ∀ j q, gl[j]? = some q → w.cell? (au.add j) = some q := fun j q hq => hnews au rfl j q hq
 have hmax : n + m ≤ maxLen := by unfold maxLen; omega
 have hsmall : ((n + m : Nat) : Int) ≤ 9223372036854775807 := by omega
 have hzc : ∀ k, (Builtin.zeroCells zv.cells k).toList.length = k * i.size := fun k => by rw [Array.length_toList, size_zeroCells, hzs]
 by_cases hroom : n + m ≤ c
 ·refine .inl ⟨hm, hroom, ?_⟩
  obtain ⟨b, o, rfl⟩ : ∃ b o, base = some ⟨b, o, none⟩ := by
   cases base with
   | none => have := hbase rfl; omega
   | some p =>
    have := hsp p rfl (by omega)
    obtain ⟨b, o, sp⟩ := p
    simp only at this
    subst this
    exact ⟨b, o, rfl⟩
  refine ⟨b, o, rfl, fun cur e' hh hcs => ?_⟩
  have hfit : o + n * i.size + gl.length ≤ cur.size := by
   have : (n + m) * i.size ≤ c * i.size := Nat.mul_le_mul_right _ hroom
   rw [Nat.add_mul] at this; omega
  have hf := run_firstCells_some (P := P) w i.size m au m ku gl hgl hnews'
  have hst := run_storeCells_at P b (o + n * i.size) e' gl 0 cur w hh (by simpa using hfit) h1
  simp only [Nat.add_zero] at hst
  simp [Builtin.append_, run_underlying ht, sizeOf, typeInfo, hi, Builtin.lenOf, hroom, hf, addr_add, hst]
 ·refine .inr ⟨hm, by omega, ?_⟩
  cases base with
  | none =>
   have hc0 := hbase rfl
   subst hc0
   have hn0 : n = 0 := by omega
   subst hn0
   have hfl0 : fl = [] := List.eq_nil_of_length_eq_zero (by simpa using hfl)
   subst hfl0
   have hr := run_append_nil (P := P) w t ty e i zv ht hi hz au m ku gl hgl hnews' hm (by simpa using hsmall) (by simp only [Nat.zero_add] at hb; omega)
   refine ⟨grownCap w m 0 e, (Builtin.zeroCells zv.cells (grownCap w m 0 e - m)).toList, by rw [Nat.zero_add]; exact grownCap_ge w m 0 e, grownCap_le_maxLen w m 0 e (by omega), by rw [hzc, Nat.zero_add], zeroCells_one hz1 _, ?_⟩
   have e0 : (gl.toArray ++ Builtin.zeroCells zv.cells (grownCap w m 0 e - m)) = (gl ++ (Builtin.zeroCells zv.cells (grownCap w m 0 e - m)).toList).toArray := by simp
   simp only [Nat.zero_add, List.nil_append]
   rw [hr, e0]
  | some ad =>
   have hr := run_append_grow (P := P) w t ty e i zv ht hi hz ad n c fl hfl (fun j q hq => holds ad rfl j q hq) au m ku gl hgl hnews' (by omega) hsmall (growslice_fits (by omega) hb)
   refine ⟨grownCap w (n + m) c e, (Builtin.zeroCells zv.cells (grownCap w (n + m) c e - (n + m))).toList, grownCap_ge _ _ _ _, grownCap_le_maxLen _ _ _ _ hmax, hzc _, zeroCells_one hz1 _, ?_⟩
   have e0 : (fl.toArray ++ gl.toArray ++ Builtin.zeroCells zv.cells (grownCap w (n + m) c e - (n + m))) = (fl ++ gl ++ (Builtin.zeroCells zv.cells (grownCap w (n + m) c e - (n + m))).toList).toArray := by simp
   rw [hr, e0]
theorem app_raw (w : World) (t ty e : TypeId) {i : TypeInfo} {zv : Value} (ht : P.underlying t = some (.slice e)) (hi : P.info? e = some i) (hz : i.zero = some zv) (hzs : zv.cells.size = i.size) (_h0 : 0 < i.size) (hz1 : ∀ q ∈ zv.cells.toList, q.oneCell' = true)
  (base : Option (Nat × Nat)) (n c : Nat) (fl : List Value) (hfl : fl.length = n * i.size) (hbase : base = none → c = 0) (hnc : n ≤ c)
  (holds : ∀ b o, base = some (b, o) → ∀ j q, fl[j]? = some q → w.cell? ⟨b, o + j, none⟩ = some q)
  (ub : Option Addr) (m ku : Nat) (gl : List Value) (hgl : gl.length = m * i.size) (hub : ub = none → m = 0) (hnews : ∀ ad, ub = some ad → ∀ j q, gl[j]? = some q → w.cell? (ad.add j) = some q)
  (h1 : ∀ q ∈ gl, q.oneCell' = true) (hb : (n + m) * i.bytes ≤ 140737488355328) (hl : n + m ≤ 274877906944) :
  (m = 0 ∧ (Builtin.append_ #[t, t] ty #[.slice (sladdr base) n c, .slice ub m ku]).run P w = .ok (.slice (sladdr base) n c) w) ∨
  (0 < m ∧ n + m ≤ c ∧ ∃ b o, base = some (b, o) ∧ ∀ cur e', w.heap[b]? = some (.cells cur e' (0, 0)) → o + c * i.size ≤ cur.size →
   (Builtin.append_ #[t, t] ty #[.slice (sladdr base) n c, .slice ub m ku]).run P w =
    .ok (.slice (sladdr base) (n + m) c) (w.setRow b (cur.toList.take (o + n * i.size) ++ gl ++ cur.toList.drop (o + n * i.size + gl.length)).toArray)) ∨
  (0 < m ∧ c < n + m ∧ ∃ cap rest, n + m ≤ cap ∧ cap ≤ maxLen ∧ rest.length = (cap - (n + m)) * i.size ∧ (∀ q ∈ rest, q.oneCell' = true) ∧
   (Builtin.append_ #[t, t] ty #[.slice (sladdr base) n c, .slice ub m ku]).run P w =
    .ok (.slice (some ⟨w.heap.size, 0, none⟩) (n + m) cap) (w.drew.alloc (.cells (fl ++ gl ++ rest).toArray e))) := by
 have h := app_rawA (P := P) w t ty e ht hi hz hzs _h0 hz1 (sladdr base) n c fl hfl (fun hx => hbase (by cases base <;> first | rfl | cases hx)) (fun ad hx _ => by
  cases base with
  | none => cases hx
  | some p => cases hx; rfl) hnc (fun ad hx j q hq => by
  cases base with
  | none => cases hx
  | some p => cases hx; rw [addr_add]; exact holds p.1 p.2 rfl j q hq) ub m ku gl hgl hub hnews h1 hb hl
 rcases h with h | ⟨h1, h2, b, o, hx, h3⟩ | h
 ·exact .inl h
 ·refine .inr (.inl ⟨h1, h2, b, o, ?_, h3⟩)
  cases base with
  | none => cases hx
  | some p => cases hx; rfl
 ·exact .inr (.inr h)
variable {D0 : Dm} {w0 : World} {X : Foot} {DF : Env} {g : Gh} {st : St} {a : Act} {w : World}
def Gh.atD (g : Gh) (D' : Dm) (d : Nat) (hd : Hd) (F : Foot) : Gh := ⟨D', fun k => if k = d then some hd else g.β k, fun k => if k = d then F else g.φ k⟩
theorem Does.newD (h : FInv DF D0 w0 X g st a w) {w' : World} {e : Eff} {d : Nat} {o : M} {D' : Dm} (h1 : e.new = [(d, o)]) (h2 : e.put = []) (hD : g.D.le D') (hin : D'.inW w')
  {v : Value} {hd : Hd} {F : Foot} (hsrc : ∀ x, F x → w.heap.size ≤ x ∨ ∃ k0 o0, lookB st.bx k0 = some o0 ∧ k0 ∈ e.del ∧ k0 < RB ∧ g.φ k0 x)
  (hkeep : ∀ k o, lookB st.bx k = some o → k ∉ e.del → Keep g.D D' w w' (g.φ k)) (ho : BoxOk (g.atD D' d hd F) w' o hd F) (hv : RepM (g.atD D' d hd F) v e.val)
  (hdn : ∀ b j u, D' b j = some u → g.D b j = some u ∨ w0.heap.size ≤ b ∨ X b) (hb : Belows X w0 w') : Does w0 X D0 g st.bx w e (g.atD D' d hd F) v w' where
 D := hD
 inW := hin
 β := fun k hk => by
  have : k ≠ d := fun e => by subst e; rw [h1] at hk; simp [names] at hk
  show (if k = d then _ else _) = _
  rw [if_neg this]
 val := hv
 box := fun k o' hk => by
  rw [h1, h2] at hk
  rcases hk with hk | ⟨_, hk⟩
  ·simp only [lookB] at hk
   cases e : Nat.beq d k with
   | false => rw [e] at hk; cases hk
   | true =>
    rw [e] at hk; cases hk
    have := nbeq_t e
    subst this
    refine ⟨hd, by show (if d = d then _ else _) = _; rw [if_pos rfl], ?_⟩
    have : (g.atD D' d hd F).φ d = F := by show (if d = d then _ else _) = _; rw [if_pos rfl]
    rw [this]; exact ho
  ·simp [lookB] at hk
 keep := fun k o' hk hdel _ hn => by
  have : k ≠ d := fun e => by subst e; rw [h1] at hn; simp [names] at hn
  exact ⟨by show (if k = d then _ else _) = _; rw [if_neg this], hkeep k o' hk hdel⟩
 src := fun k b hk hb' => by
  rw [h1, h2] at hk
  simp [names] at hk
  subst hk
  have : (g.atD D' k hd F).φ k b = F b := by show (if k = k then F else g.φ k) b = F b; rw [if_pos rfl]
  rw [this] at hb'
  rcases hsrc b hb' with h | ⟨k0, o0, h1, h2, h3, h4⟩
  ·exact .inl h
  ·exact .inr ⟨k0, o0, h1, .inl h2, fun _ => h3, h4⟩
 dis := fun k k' b hk hk' _ _ => by
  rw [h1, h2] at hk hk'
  simp [names] at hk hk'
  rw [hk, hk']
 dnew := fun b j u hu => by
  rcases hdn b j u hu with hu | hu
  ·exact h.dnew b j u hu
  ·exact .inr hu
 below := hb
def Dm.add (D : Dm) (b : Nat) (vs : List Value) : Dm := fun b' j => if b' = b then vs[j]? else D b' j
theorem Dm.add_le {D : Dm} {b : Nat} (vs : List Value) (h : ∀ j, D b j = none) : D.le (D.add b vs) := fun b' j v hd => by
 unfold Dm.add
 split
 ·rename_i e; subst e; rw [h j] at hd; cases hd
 ·exact hd
theorem sl_one {D : Dm} {gl : List Value} {ys : List (List T)} {z : Nat} (hF : Flat D gl ys z) : ∀ q ∈ gl, q.oneCell' = true := fun q hq => by
 obtain ⟨k, hk⟩ := List.mem_iff_getElem?.1 hq
 have hlt : k < ys.length * z := by rw [← hF.len]; exact (List.getElem?_eq_some_iff.1 hk).1
 have h0 : 0 < z := by
  rcases Nat.eq_zero_or_pos z with h | h
  ·subst h; simp at hlt
  ·exact h
 have hi' : k / z < ys.length := Nat.div_lt_of_lt_mul (by rw [Nat.mul_comm]; exact hlt)
 have hj' : k % z < (ys[k / z]).length := by rw [hF.el _ (List.getElem_mem hi')]; exact Nat.mod_lt _ h0
 obtain ⟨q', hq', hr⟩ := hF.rep _ _ _ _ (List.getElem?_eq_getElem hi') (List.getElem?_eq_getElem hj')
 rw [Nat.div_add_mod' k z, hk] at hq'
 cases hq'
 exact hr.one
theorem RepT.flat' {D : Dm} {v : Value} {xs : List (List T)} {z : Nat} (h : RepT D v (.sl xs)) (hz : ∀ cs ∈ xs, cs.length = z) (h0 : 0 < z) :
  ∃ base c fl, v = .slice base xs.length c ∧ xs.length ≤ c ∧ (base = none → c = 0) ∧ (∀ ad, base = some ad → 0 < c → ad.spot = none) ∧ Flat D fl xs z ∧ ∀ ad, base = some ad → ∀ (q : Nat) (u : Value), fl[q]? = some u → D ad.block (ad.off + q) = some u ∧ ad.spot = none := by
 rcases h.flat hz h0 with ⟨⟨ad, rfl⟩, rfl⟩ | ⟨b, off, cap, fl, rfl, hc, hF, hD⟩
 ·exact ⟨ad, 0, [], rfl, Nat.le_refl _, (fun _ => rfl), (fun _ _ h => by cases h), .nil _ _, (fun ad h q u hq => by simp at hq)⟩
 ·exact ⟨some ⟨b, off, none⟩, cap, fl, rfl, hc.1, (fun h => by cases h), (fun ad h _ => by cases h; rfl), hF, fun ad h q u hq => by cases h; exact ⟨hD q u hq, rfl⟩⟩
theorem cell_add {w : World} {ad : Addr} {j : Nat} (h : ad.spot = none) : w.cell? (ad.add j) = w.cell? ⟨ad.block, ad.off + j, none⟩ := by
 obtain ⟨b, o, sp⟩ := ad
 simp only at h
 subst h
 rw [addr_add]
theorem Does.app (h : FInv DF D0 w0 X g st a w) (t ty e : TypeId) {i : TypeInfo} {zv : Value}
  (ht : P.underlying t = some (.slice e)) (hi : P.info? e = some i) (hz : i.zero = some zv) (hzs : zv.cells.size = i.size) (h0 : 0 < i.size) (hz1 : ∀ q ∈ zv.cells.toList, q.oneCell' = true)
  {v u : Value} {xs ys : List (List T)} {d : Nat} {ef : Eff} (hnew : ef.new = [(d, .op i.size (xs ++ ys))]) (hput : ef.put = []) (hval : ef.val = .own d i.size (xs ++ ys))
  (hv : RepT g.D v (.sl xs)) (hid : (∃ a n, v = .slice a n n) ∨ ∃ k o, k ∈ ef.del ∧ k < RB ∧ lookB st.bx k = some o ∧ OwP g.D w v i.size (g.φ k))
  (hu : RepT g.D u (.sl ys)) (hb : (xs.length + ys.length) * i.bytes ≤ 140737488355328) (hl : xs.length + ys.length ≤ 274877906944)
  (hx : ∀ x, x ∈ xs → x.length = i.size) (hy : ∀ y, y ∈ ys → y.length = i.size) :
  ∃ v' w' g', (Builtin.append_ #[t, t] ty #[v, u]).run P w = .ok v' w' ∧ Does w0 X D0 g st.bx w ef g' v' w' := by
 obtain ⟨base, c, fl, rfl, hnc, hbase, hspv, hFv, hDv⟩ := hv.flat' hx h0
 obtain ⟨ub, ku, gl, rfl, _, hub, _, hFu, hDu⟩ := hu.flat' hy h0
 have raw := app_rawA (P := P) w t ty e ht hi hz hzs h0 hz1 base xs.length c fl hFv.len hbase hspv hnc (fun ad hb j q hq => by rw [cell_add (hDv ad hb j q hq).2]; exact h.dw _ _ _ (hDv ad hb j q hq).1) ub ys.length ku gl hFu.len
  (fun e => by have := hub e; omega) (fun ad hb j q hq => by rw [cell_add (hDu ad hb j q hq).2]; exact h.dw _ _ _ (hDu ad hb j q hq).1) (sl_one hFu) hb hl
 rcases raw with ⟨hm, hr⟩ | ⟨hm, hroom, b, o, rfl, hr⟩ | ⟨hm, hgt, cap, rest, hge, hcm, hrest, _, hr⟩
 ·-- nothing is appended
  have hys : ys = [] := List.eq_nil_of_length_eq_zero hm
  subst hys
  rw [List.append_nil] at hnew hval
  have keep0 : ∀ F : Foot, ∀ k o, lookB st.bx k = some o → Keep g.D g.D w w (g.φ k) := fun _ k o _ => keep_refl _ _ _
  rcases hid with ⟨ad, n, e1⟩ | ⟨k, o, hk, hkr, hko, how⟩
  ·refine ⟨_, w, _, hr, Does.newD h (D' := g.D) (hd := .a (.slice base xs.length c) i.size) (F := fun _ => False) hnew hput (Dm.le_refl _) h.dw (fun x hx => hx.elim) (fun k o hk _ => keep0 (fun _ => False) k o hk)
    (.op _ _ _ _ hv ⟨base, xs.length, c, rfl, .inl ⟨by cases e1; rfl, fun _ h => h⟩⟩) (by rw [hval]; exact .own _ _ _ _ hv (by show (if d = d then _ else _) = _; rw [if_pos rfl])) (fun b j u hu => .inl hu) h.below⟩
  ·refine ⟨_, w, _, hr, Does.newD h (D' := g.D) (hd := .a (.slice base xs.length c) i.size) (F := g.φ k) hnew hput (Dm.le_refl _) h.dw (fun x hx => .inr ⟨k, o, hko, hk, hkr, hx⟩) (fun k o hk _ => keep0 (fun _ => False) k o hk)
    (.op _ _ _ _ hv how) (by rw [hval]; exact .own _ _ _ _ hv (by show (if d = d then _ else _) = _; rw [if_pos rfl])) (fun b j u hu => .inl hu) h.below⟩
 ·-- in place
  rcases hid with ⟨ad, n, e1⟩ | ⟨k, ob, hk, hkr, hko, ad, n, c', e1, hor⟩
  ·exfalso; cases e1; omega
  ·cases e1
   rcases hor with ⟨hcn, _⟩ | ⟨b', e', cur, e2, hh, _, hn, _, hcm, hcs, hDb, hF⟩
   ·exfalso; omega
   ·simp only [Option.some.injEq, Addr.mk.injEq] at e2
    obtain ⟨rfl, rfl, _⟩ := e2
    have hr := hr cur e' hh (by rw [hcs]; omega)
    rw [Nat.zero_add] at hr
    have hsum : (xs.length + ys.length) * i.size = xs.length * i.size + gl.length := by rw [Nat.add_mul, hFu.len]
    have hfit : xs.length * i.size + gl.length ≤ cur.toList.length := by
     rw [Array.length_toList (xs := cur), hcs, ← hsum]; exact Nat.mul_le_mul_right _ hroom
    let row : List Value := cur.toList.take (xs.length * i.size) ++ gl ++ cur.toList.drop (xs.length * i.size + gl.length)
    have hrow : ∀ j, row[j]? = if j < xs.length * i.size then cur[j]? else if j < xs.length * i.size + gl.length then gl[j - xs.length * i.size]? else cur[j]? := fun j => by
     show (cur.toList.take (xs.length * i.size) ++ gl ++ cur.toList.drop (xs.length * i.size + gl.length))[j]? = _
     rw [lay_get hfit]; simp only [Array.getElem?_toList]
    let D' : Dm := fun q j => if q = b then (if j < (xs.length + ys.length) * i.size then row[j]? else none) else g.D q j
    have hle : g.D.le D' := fun q j u hq => by
     show (if q = b then _ else _) = _
     by_cases eb : q = b
     ·subst eb
      rw [if_pos rfl]
      rw [hDb j] at hq
      split at hq
      ·rename_i hj
       rw [if_pos (by omega), hrow j, if_pos hj]; exact hq
      ·cases hq
     ·rw [if_neg eb]; exact hq
    have hrl : row.length = cur.size := by
     show (cur.toList.take (xs.length * i.size) ++ gl ++ cur.toList.drop (xs.length * i.size + gl.length)).length = _
     simp only [List.length_append, List.length_take, List.length_drop]; rw [Array.length_toList (xs := cur)] at hfit ⊢; omega
    have hhn : (w.setRow b row.toArray).heap[b]? = some (.cells row.toArray e' (0, 0)) := setRow_heap w b cur _ _ _ hh
    have hin : D'.inW (w.setRow b row.toArray) := fun q j u hq => by
     have hq' : (if q = b then (if j < (xs.length + ys.length) * i.size then row[j]? else none) else g.D q j) = some u := hq
     by_cases eb : q = b
     ·subst eb
      rw [if_pos rfl] at hq'
      rw [cell_of_heap hhn, List.getElem?_toArray]
      split at hq'
      ·exact hq'
      ·cases hq'
     ·rw [if_neg eb] at hq'
      rw [World.cell?_of_block (w := w) (a := ⟨q, j, none⟩) (setRow_other w b q _ eb)]
      exact h.dw q j u hq'
    have hFF : Flat D' (fl ++ gl) (xs ++ ys) i.size := (hFv.append hFu).mono hle
    have hDD : ∀ q u, (fl ++ gl)[q]? = some u → D' b (0 + q) = some u := fun q u hq => by
     rw [Nat.zero_add]
     show (if b = b then _ else _) = _
     rw [if_pos rfl]
     have hlen : (fl ++ gl).length = (xs.length + ys.length) * i.size := by rw [hFF.len, List.length_append]
     have hq' : q < (xs.length + ys.length) * i.size := by rw [← hlen]; exact (List.getElem?_eq_some_iff.1 hq).1
     rw [if_pos hq', hrow q]
     by_cases hqf : q < fl.length
     ·rw [List.getElem?_append_left hqf] at hq
      have h2 := (hDv ⟨b, 0, none⟩ rfl q u hq).1
      simp only at h2
      rw [Nat.zero_add, hDb q, if_pos (by rw [← hFv.len]; exact hqf)] at h2
      rw [if_pos (by rw [← hFv.len]; exact hqf)]; exact h2
     ·rw [List.getElem?_append_right (by omega)] at hq
      rw [hFv.len] at hqf hq
      rw [if_neg (by omega), if_pos (by omega)]; exact hq
    have hrep : RepT D' (.slice (some ⟨b, 0, none⟩) (xs ++ ys).length c) (.sl (xs ++ ys)) :=
     RepT.of_flat hFF (by rw [List.length_append]; exact hroom) (by rw [List.length_append]; exact hl) hDD
    rw [List.length_append] at hrep
    refine ⟨_, _, _, hr, Does.newD h (D' := D') (hd := .a (.slice (some ⟨b, 0, none⟩) (xs.length + ys.length) c) i.size) (F := fun x => x = b) hnew hput hle hin (fun x hx => .inr ⟨k, ob, hko, hk, hkr, (hF x).2 hx⟩) (fun q oq hq hqd => ?_)
     (.op _ _ _ _ hrep ⟨_, _, _, rfl, .inr ⟨b, e', row.toArray, rfl, hhn, h0, by omega, hroom, hcm, by rw [List.size_toArray, hrl, hcs], fun j => ?_, fun x => Iff.rfl⟩⟩)
     (by rw [hval]; exact .own _ _ _ _ hrep (by show (if d = d then _ else _) = _; rw [if_pos rfl])) (fun q j u hq => ?_) (h.below.row (h.new k ob b hko hkr ((hF b).2 rfl)) _)⟩
    ·intro x hxq
     have hne : x ≠ b := fun e => by subst e; exact hqd (h.sep q k oq ob x hq hko hxq ((hF x).2 rfl) ▸ hk)
     exact ⟨setRow_other w b x _ hne, fun j => by show (if x = b then _ else _) = _; rw [if_neg hne]⟩
    ·show (if b = b then _ else _) = _
     rw [if_pos rfl, List.getElem?_toArray]
    ·have hq' : (if q = b then (if j < (xs.length + ys.length) * i.size then row[j]? else none) else g.D q j) = some u := hq
     by_cases eb : q = b
     ·subst eb; exact .inr (h.new k ob q hko hkr ((hF q).2 rfl))
     ·rw [if_neg eb] at hq'; exact .inl hq'
 ·-- a new row
  have hblk : (w.drew.alloc (.cells (fl ++ gl ++ rest).toArray e)).heap[w.heap.size]? = some (.cells (fl ++ gl ++ rest).toArray e (0, 0)) := heap_alloc_new w.drew _
  have hnone : ∀ j, g.D w.heap.size j = none := Dm.none_of_ge h.dw (Nat.le_refl _)
  have hle : g.D.le (g.D.add w.heap.size (fl ++ gl)) := Dm.add_le _ hnone
  have hbel := below_drew_alloc w (.cells (fl ++ gl ++ rest).toArray e)
  have hFF : Flat (g.D.add w.heap.size (fl ++ gl)) (fl ++ gl) (xs ++ ys) i.size := (hFv.append hFu).mono hle
  have hlen : (fl ++ gl).length = (xs.length + ys.length) * i.size := by rw [hFF.len, List.length_append]
  have hrep : RepT (g.D.add w.heap.size (fl ++ gl)) (.slice (some ⟨w.heap.size, 0, none⟩) (xs ++ ys).length cap) (.sl (xs ++ ys)) :=
   RepT.of_flat hFF (by rw [List.length_append]; exact hge) (by rw [List.length_append]; exact hl) (fun q u hq => by rw [Nat.zero_add]; unfold Dm.add; rw [if_pos rfl]; exact hq)
  rw [List.length_append] at hrep
  refine ⟨_, _, _, hr, Does.newD h (D' := g.D.add w.heap.size (fl ++ gl)) (hd := .a (.slice (some ⟨w.heap.size, 0, none⟩) (xs.length + ys.length) cap) i.size) (F := fun x => x = w.heap.size) hnew hput hle (fun q j u hq => ?_)
   (fun x hx => .inl (by rw [hx]; exact Nat.le_refl _)) (fun q oq hq _ => ?_) (.op _ _ _ _ hrep ⟨_, _, _, rfl, .inr ⟨w.heap.size, e, _, rfl, hblk, h0, by omega, hge, hcm, ?_, fun j => ?_, fun x => Iff.rfl⟩⟩)
   (by rw [hval]; exact .own _ _ _ _ hrep (by show (if d = d then _ else _) = _; rw [if_pos rfl])) (fun q j u hq => ?_) (h.below.next hbel)⟩
  ·have hq' : (if q = w.heap.size then (fl ++ gl)[j]? else g.D q j) = some u := hq
   split at hq'
   ·rename_i e1
    subst e1
    rw [cell_of_heap hblk, List.getElem?_toArray, List.getElem?_append_left ((List.getElem?_eq_some_iff.1 hq').1)]; exact hq'
   ·exact Dm.inW_below h.dw hbel q j u hq'
  ·intro x hxq
   have hlt := h.lt hq x hxq
   exact ⟨hbel.block x hlt, fun j => by unfold Dm.add; rw [if_neg (by omega)]⟩
  ·rw [List.size_toArray, List.length_append, hlen, hrest, ← Nat.add_mul]; congr 1; omega
  ·show (if w.heap.size = w.heap.size then (fl ++ gl)[j]? else g.D w.heap.size j) = _
   rw [if_pos rfl, ← hlen, List.getElem?_toArray]
   split
   ·rename_i hj; rw [List.getElem?_append_left hj]
   ·rename_i hj; exact List.getElem?_eq_none (by omega)
  ·have hq' : (if q = w.heap.size then (fl ++ gl)[j]? else g.D q j) = some u := hq
   split at hq'
   ·rename_i e1; exact .inr (.inl (by rw [e1]; exact h.below.size))
   ·exact .inl hq'
end
end Go.Bm
/- Arrays that are boxes: appended to, built. -/
namespace Go.Bm
open Go.RowKit (Below)
structure Els (g : Gh) (w : World) (z : Nat) (xs : List (List M)) (vs : List Value) (A : Nat → Nat → Foot) : Prop where
 len : vs.length = xs.length * z
 el : ∀ (i : Nat) (cs : List M), xs[i]? = some cs → cs.length = z
 sub : ∀ i j x, A i j x → i < xs.length ∧ j < z
 dis : ∀ i j i' j' x, A i j x → A i' j' x → i = i' ∧ j = j'
 one : ∀ v ∈ vs, v.oneCell' = true
 rep : ∀ (i j : Nat) (cs : List M) (c : M) (v : Value), xs[i]? = some cs → cs[j]? = some c → vs[i * z + j]? = some v → OwC g w c v (A i j)
theorem Els.nil (g : Gh) (w : World) (z : Nat) : Els g w z [] [] (fun _ _ _ => False) :=
 ⟨by simp, by simp, fun i j x h => h.elim, fun i j i' j' x h => h.elim, by simp, fun i j cs c v h => by simp at h⟩
theorem Els.keep {g g' : Gh} {w w' : World} {z : Nat} {xs : List (List M)} {vs : List Value} {A : Nat → Nat → Foot} (h : Els g w z xs vs A) (hD : g.D.le g'.D) (hβ : ∀ k b, g.β k = some b → g'.β k = some b)
  (k : ∀ i j, Keep g.D g'.D w w' (A i j)) : Els g' w' z xs vs A :=
 ⟨h.len, h.el, h.sub, h.dis, h.one, fun i j cs c v h1 h2 h3 => (h.rep i j cs c v h1 h2 h3).keep hD (fun q _ b hb => hβ q b hb) (k i j)⟩
theorem Els.append {g : Gh} {w : World} {z : Nat} {xs ys : List (List M)} {vs us : List Value} {A B : Nat → Nat → Foot} (h : Els g w z xs vs A) (k : Els g w z ys us B) (hd : ∀ i j i' j' x, A i j x → B i' j' x → False) :
  Els g w z (xs ++ ys) (vs ++ us) (fun i j => if i < xs.length then A i j else B (i - xs.length) j) := by
 refine ⟨by simp [h.len, k.len, Nat.add_mul], fun i cs hi => ?_, fun i j x hx => ?_, fun i j i' j' x hx hx' => ?_, fun v hv => ?_, fun i j cs c v hi hj hv => ?_⟩
 ·by_cases hlt : i < xs.length
  ·rw [List.getElem?_append_left hlt] at hi; exact h.el i cs hi
  ·rw [List.getElem?_append_right (by omega)] at hi; exact k.el _ cs hi
 ·by_cases hlt : i < xs.length
  ·simp only [hlt, if_true] at hx; have := h.sub i j x hx; rw [List.length_append]; omega
  ·simp only [hlt, if_false] at hx; have := k.sub _ j x hx; rw [List.length_append]; omega
 ·by_cases hlt : i < xs.length <;> by_cases hlt' : i' < xs.length <;> simp only [hlt, hlt', if_true, if_false] at hx hx'
  ·exact h.dis _ _ _ _ x hx hx'
  ·exact (hd _ _ _ _ x hx hx').elim
  ·exact (hd _ _ _ _ x hx' hx).elim
  ·have := k.dis _ _ _ _ x hx hx'; omega
 ·rcases List.mem_append.1 hv with hv | hv
  ·exact h.one v hv
  ·exact k.one v hv
 ·by_cases hlt : i < xs.length
  ·rw [List.getElem?_append_left hlt] at hi
   simp only [hlt, if_true]
   have hjz : j < z := by rw [← h.el i cs hi]; exact (List.getElem?_eq_some_iff.1 hj).1
   have : i * z + j < vs.length := by
    rw [h.len]
    have : (i + 1) * z ≤ xs.length * z := Nat.mul_le_mul_right z hlt
    rw [Nat.add_mul] at this; omega
   rw [List.getElem?_append_left this] at hv
   exact h.rep i j cs c v hi hj hv
  ·rw [List.getElem?_append_right (by omega)] at hi
   simp only [hlt, if_false]
   have e : i * z = xs.length * z + (i - xs.length) * z := by rw [← Nat.add_mul]; congr 1; omega
   rw [List.getElem?_append_right (by rw [h.len]; omega), h.len] at hv
   rw [show i * z + j - xs.length * z = (i - xs.length) * z + j from by omega] at hv
   exact k.rep _ j cs c v hi hj hv
theorem Els.box {g : Gh} {w : World} {z : Nat} {hs : List Nat} {xs : List (List M)} {vs : List Value} {A : Nat → Nat → Foot} (h : Els (g.only hs) w z xs vs A) {b o c : Nat} {cur : Array Value} {ty : TypeId}
  (hb : w.heap[b]? = some (.cells cur ty (0, 0))) (hd : ∀ j, g.D b j = none) (hsz : cur.size = o + c * z) (h1 : ∀ u ∈ cur.toList, u.oneCell' = true) (h0 : 0 < z) (hc : xs.length ≤ c ∧ xs.length ≤ 274877906944 ∧ c ≤ maxLen)
  (hA : ∀ i j x, A i j x → x ≠ b) (hcur : ∀ q u, vs[q]? = some u → cur[o + q]? = some u) {F : Foot} (hF : ∀ x, F x ↔ x = b ∨ ∃ i j, A i j x) : BoxOk g w (.oa hs z xs) (.s (some (b, o)) z c) F := by
 refine .oa b o c z hs cur ty xs A F hb hd hsz h1 h0 hc h.el (fun i j x hx => ⟨h.sub i j x hx, hA i j x hx⟩) h.dis hF fun i j cs d v hi hj hv => ?_
 have hjz : j < z := by rw [← h.el i cs hi]; exact (List.getElem?_eq_some_iff.1 hj).1
 have hil := (List.getElem?_eq_some_iff.1 hi).1
 have hlt : i * z + j < vs.length := by
  rw [h.len]
  have : (i + 1) * z ≤ xs.length * z := Nat.mul_le_mul_right z hil
  rw [Nat.add_mul] at this; omega
 have e := List.getElem?_eq_getElem hlt
 have e' := hcur _ _ e
 rw [e'] at hv
 cases hv
 exact h.rep i j cs d _ hi hj e
theorem BoxOk.els {g : Gh} {w : World} {z : Nat} {hs : List Nat} {xs : List (List M)} {hd : Hd} {F : Foot} (h : BoxOk g w (.oa hs z xs) hd F) :
  (∃ c, xs = [] ∧ hd = .s none z c ∧ ∀ x, ¬ F x) ∨ (∃ a q, xs = [] ∧ hd = .s (some (a, q)) z 0 ∧ ∀ x, ¬ F x) ∨ ∃ b o c cur ty vs A, hd = .s (some (b, o)) z c ∧ Els (g.only hs) w z xs vs A ∧ w.heap[b]? = some (.cells cur ty (0, 0)) ∧ (∀ j, g.D b j = none) ∧ cur.size = o + c * z ∧
   (∀ u ∈ cur.toList, u.oneCell' = true) ∧ 0 < z ∧ (xs.length ≤ c ∧ xs.length ≤ 274877906944 ∧ c ≤ maxLen) ∧ (∀ i j x, A i j x → x ≠ b) ∧ (∀ q u, vs[q]? = some u → cur[o + q]? = some u) ∧ ∀ x, F x ↔ x = b ∨ ∃ i j, A i j x := by
 cases h with
 | oa0 z c hs F hF => exact .inl ⟨c, rfl, rfl, hF⟩
 | oae a q z hs F hF => exact .inr (.inl ⟨a, q, rfl, rfl, hF⟩)
 | oa b o c z hs' cur ty xs A F hb hd hs h1c h0 hc hz hA hdis hF h =>
  have hle : xs.length * z ≤ c * z := Nat.mul_le_mul_right z hc.1
  have hq : ∀ q u, ((cur.toList.drop o).take (xs.length * z))[q]? = some u → cur[o + q]? = some u := fun q u hq => by
   rw [List.getElem?_take] at hq
   split at hq
   ·rwa [List.getElem?_drop, Array.getElem?_toList] at hq
   ·cases hq
  refine .inr (.inr ⟨b, o, c, cur, ty, (cur.toList.drop o).take (xs.length * z), A, rfl, ⟨?_, hz, fun i j x hx => (hA i j x hx).1, hdis, fun v hv => h1c v (List.mem_of_mem_drop (List.mem_of_mem_take hv)), fun i j cs d v hi hj hv => h i j cs d v hi hj (hq _ _ hv)⟩,
   hb, hd, hs, h1c, h0, hc, fun i j x hx => (hA i j x hx).2, hq, hF⟩)
  rw [List.length_take, List.length_drop, Array.length_toList (xs := cur)]; omega
theorem Els.lt {g : Gh} {w : World} {z : Nat} {xs : List (List M)} {vs : List Value} {A : Nat → Nat → Foot} (h : Els g w z xs vs A) : ∀ i j x, A i j x → x < w.heap.size := fun i j x hx => by
 obtain ⟨hi, hj⟩ := h.sub i j x hx
 have e1 := List.getElem?_eq_getElem hi
 have e2 := List.getElem?_eq_getElem (show j < xs[i].length by rw [h.el i _ e1]; exact hj)
 have hlt : i * z + j < vs.length := by
  rw [h.len]
  have : (i + 1) * z ≤ xs.length * z := Nat.mul_le_mul_right z hi
  rw [Nat.add_mul] at this; omega
 exact (h.rep i j _ _ _ e1 e2 (List.getElem?_eq_getElem hlt)).lt x hx
theorem rowsT_get {ys : List (List T)} {i : Nat} {cs : List M} (h : (rowsT ys)[i]? = some cs) : ∃ r, ys[i]? = some r ∧ cs = r.map M.t := by
 unfold rowsT at h
 rw [List.getElem?_map] at h
 obtain ⟨r, hr, rfl⟩ := Option.map_eq_some_iff.1 h
 exact ⟨r, hr, rfl⟩
theorem Flat.els {g : Gh} {w : World} {fl : List Value} {ys : List (List T)} {z : Nat} (h : Flat g.D fl ys z) : Els g w z (rowsT ys) fl (fun _ _ _ => False) := by
 refine ⟨by rw [h.len]; simp [rowsT], fun i cs hi => ?_, fun i j x h => h.elim, fun i j i' j' x h => h.elim, sl_one h, fun i j cs c v hi hj hv => ?_⟩
 ·obtain ⟨r, hr, rfl⟩ := rowsT_get hi
  simpa using h.el r (List.mem_of_getElem? hr)
 ·obtain ⟨r, hr, rfl⟩ := rowsT_get hi
  rw [List.getElem?_map] at hj
  obtain ⟨x, hx, rfl⟩ := Option.map_eq_some_iff.1 hj
  obtain ⟨u, hu, hrep⟩ := h.rep i j r x hr hx
  rw [hu] at hv; cases hv
  exact .inr ⟨.t _ x hrep, fun _ h => h⟩
section
variable {P : Program} {D0 : Dm} {w0 : World} {X : Foot} {DF : Env} {g : Gh} {st : St} {a : Act} {w : World}
theorem only_mono (g : Gh) {hs hs' : List Nat} (h : ∀ k, memN k hs = true → memN k hs' = true) : ∀ k b, (g.only hs).β k = some b → (g.only hs').β k = some b := by
 intro k b hb
 unfold Gh.only at *
 simp only at *
 split at hb
 ·rename_i e; rw [if_pos (h k e)]; exact hb
 ·cases hb
theorem memN_append_l {k : Nat} {l l' : List Nat} (h : memN k l = true) : memN k (l ++ l') = true := memN_of (List.mem_append_left _ (memN_t h))
theorem memN_append_r {k : Nat} {l l' : List Nat} (h : memN k l' = true) : memN k (l ++ l') = true := memN_of (List.mem_append_right _ (memN_t h))
theorem Does.appB (h : FInv DF D0 w0 X g st a w) (t ty e : TypeId) {i : TypeInfo} {zv : Value}
  (ht : P.underlying t = some (.slice e)) (hi : P.info? e = some i) (hz : i.zero = some zv) (hzs : zv.cells.size = i.size) (h0 : 0 < i.size) (hz1 : ∀ q ∈ zv.cells.toList, q.oneCell' = true)
  {v u : Value} {k d n m ku : Nat} {hs hs' : List Nat} {xs ys : List (List M)} {ef : Eff} (hnew : ef.new = [(d, .oa hs' i.size (xs ++ ys))]) (hput : ef.put = []) (hval : ef.val = .sb d i.size 0 (n + m))
  (hk : lookB st.bx k = some (.oa hs i.size xs)) (hkr : k < RB) (hdel : k ∈ ef.del) (hn : n = xs.length) (hm : m = ys.length) (hs'd : ∀ q, memN q hs' = true → q ≠ d)
  (hv : RepM g v (.sb k i.size 0 n)) (hhs : ∀ q, memN q hs = true → memN q hs' = true)
  {ub : Option Addr} {gl : List Value} {B : Nat → Nat → Foot} (hu : u = .slice ub m ku) (hub : ub = none → m = 0) (hEu : Els (g.only hs') w i.size ys gl B)
  (hnews : ∀ ad, ub = some ad → ∀ j q, gl[j]? = some q → w.cell? (ad.add j) = some q)
  (hB : ∀ i j x, B i j x → ∃ k0 o0, lookB st.bx k0 = some o0 ∧ k0 ∈ ef.del ∧ k0 < RB ∧ k0 ≠ k ∧ g.φ k0 x)
  (hb : (n + m) * i.bytes ≤ 140737488355328) (hl : n + m ≤ 274877906944) :
  ∃ v' w' g', (Builtin.append_ #[t, t] ty #[v, u]).run P w = .ok v' w' ∧ Does w0 X D0 g st.bx w ef g' v' w' := by
 subst hn hm hu
 obtain ⟨hd, hβ, hok⟩ := h.bx k _ hk
 have turn : ∀ {D' : Dm} {hd' : Hd} {F : Foot} {w' : World} (hs0 : List Nat), (∀ q, memN q hs0 = true → memN q hs' = true) → g.D.le D' → ∀ {xs : List (List M)} {vs : List Value} {A : Nat → Nat → Foot},
   Els (g.only hs0) w i.size xs vs A → (∀ i j, Keep g.D D' w w' (A i j)) → Els ((g.atD D' d hd' F).only hs') w' i.size xs vs A := by
  intro D' hd' F w' hs0 hsub hD xs vs A hE hk'
  refine hE.keep (g := g.only hs0) (g' := (g.atD D' d hd' F).only hs') hD (fun q b hb => ?_) hk'
  unfold Gh.only Gh.atD at *
  simp only at *
  split at hb
  ·rename_i e; rw [if_pos (hsub q e), if_neg (hs'd q (hsub q e))]; exact hb
  ·cases hb
 have hat : ∀ {D' : Dm} {hd' : Hd} {F : Foot}, (g.atD D' d hd' F).β d = some hd' := by intro D' hd' F; show (if d = d then _ else _) = _; rw [if_pos rfl]
 have hBk : ∀ i j x, B i j x → ¬ g.φ k x := fun i j x hx hy => by
  obtain ⟨k0, o0, h1, _, _, h4, h5⟩ := hB i j x hx
  exact h4 (h.sep k0 k o0 _ x h1 hk h5 hy)
 have hBsrc : ∀ i j x, B i j x → w.heap.size ≤ x ∨ ∃ k0 o0, lookB st.bx k0 = some o0 ∧ k0 ∈ ef.del ∧ k0 < RB ∧ g.φ k0 x := fun i j x hx => by
  obtain ⟨k0, o0, h1, h2, h3, _, h5⟩ := hB i j x hx
  exact .inr ⟨k0, o0, h1, h2, h3, h5⟩
 have hksrc : ∀ x, g.φ k x → w.heap.size ≤ x ∨ ∃ k0 o0, lookB st.bx k0 = some o0 ∧ k0 ∈ ef.del ∧ k0 < RB ∧ g.φ k0 x := fun x hx => .inr ⟨k, _, hk, hdel, hkr, hx⟩
 have keep0 : ∀ k o, lookB st.bx k = some o → k ∉ ef.del → Keep g.D g.D w w (g.φ k) := fun _ _ _ _ => keep_refl _ _ _
 -- a new row out of raw ones
 have fresh : ∀ {vs : List Value} {A : Nat → Nat → Foot}, Els (g.only hs) w i.size xs vs A → (∀ i j x, A i j x → g.φ k x) → 0 < ys.length → ∀ (cap : Nat) (rest : List Value), xs.length + ys.length ≤ cap → cap ≤ maxLen → rest.length = (cap - (xs.length + ys.length)) * i.size →
   (∀ q ∈ rest, q.oneCell' = true) → ∃ g', Does w0 X D0 g st.bx w ef g' (.slice (some ⟨w.heap.size, 0, none⟩) (xs.length + ys.length) cap) (w.drew.alloc (.cells (vs ++ gl ++ rest).toArray e)) := by
  intro vs A hE hAk hmp cap rest hge hcm hrest hr1
  have hbel := below_drew_alloc w (.cells (vs ++ gl ++ rest).toArray e)
  have hblk : (w.drew.alloc (.cells (vs ++ gl ++ rest).toArray e)).heap[w.heap.size]? = some (.cells (vs ++ gl ++ rest).toArray e (0, 0)) := heap_alloc_new w.drew _
  let F : Foot := fun x => x = w.heap.size ∨ ∃ i' j, (if i' < xs.length then A i' j else B (i' - xs.length) j) x
  have hEx := turn (D' := g.D) (hd' := .s (some (w.heap.size, 0)) i.size cap) (F := F) (w' := w.drew.alloc (.cells (vs ++ gl ++ rest).toArray e)) hs hhs (Dm.le_refl _) hE (fun i' j => keep_below (hE.lt i' j) hbel)
  have hEy := turn (D' := g.D) (hd' := .s (some (w.heap.size, 0)) i.size cap) (F := F) (w' := w.drew.alloc (.cells (vs ++ gl ++ rest).toArray e)) hs' (fun _ h => h) (Dm.le_refl _) hEu (fun i' j => keep_below (hEu.lt i' j) hbel)
  have hEE := hEx.append hEy fun _ _ _ _ x hx hy => hBk _ _ x hy (hAk _ _ x hx)
  have hll : (vs ++ gl).length = (xs.length + ys.length) * i.size := by rw [hEE.len, List.length_append]
  refine ⟨_, Does.newD h (D' := g.D) (hd := .s (some (w.heap.size, 0)) i.size cap) (F := F) hnew hput (Dm.le_refl _) (Dm.inW_below h.dw hbel) (fun x hx => ?_) (fun q oq hq _ => keep_below (h.lt hq) hbel)
   (hEE.box hblk (fun j => Dm.none_of_ge h.dw (Nat.le_refl _) j) ?_ (fun u hu => ?_) h0 ⟨by rw [List.length_append]; exact hge, by rw [List.length_append]; exact hl, hcm⟩ (fun i' j x hx => ?_) (fun q u hq => ?_) (fun x => Iff.rfl)) ?_
   (fun b j u hu => .inl hu) (h.below.next hbel)⟩
  ·rcases hx with hx | ⟨i', j, hx⟩
   ·exact .inl (by rw [hx]; exact Nat.le_refl _)
   ·by_cases hlt : i' < xs.length
    ·rw [if_pos hlt] at hx; exact hksrc x (hAk _ _ x hx)
    ·rw [if_neg hlt] at hx; exact hBsrc _ _ x hx
  ·rw [List.size_toArray, List.length_append, hll, hrest, ← Nat.add_mul, Nat.zero_add]; congr 1; omega
  ·rw [List.toList_toArray] at hu
   rcases List.mem_append.1 hu with hu | hu
   ·exact hEE.one u hu
   ·exact hr1 u hu
  ·by_cases hlt : i' < xs.length
   ·simp only [hlt, if_true] at hx; have := hE.lt _ _ x hx; omega
   ·simp only [hlt, if_false] at hx; have := hEu.lt _ _ x hx; omega
  ·rw [Nat.zero_add, List.getElem?_toArray, List.getElem?_append_left ((List.getElem?_eq_some_iff.1 hq).1)]; exact hq
  ·rw [hval]
   have := RepM.sb (g := g.atD g.D d (.s (some (w.heap.size, 0)) i.size cap) F) w.heap.size 0 i.size cap d 0 (xs.length + ys.length) hat (by omega) hl
   simpa using this
 rcases hok.els with ⟨c0, hx0, rfl, hF⟩ | ⟨a0, q0, hx0, rfl, hF⟩ | ⟨b, o, c, cur, cty, vs, A, rfl, hE, hh, hDb, hcs, h1c, _, hc, hAb, hcur, hF⟩
 ·-- nothing there yet
  have hxs : xs = [] := hx0
  subst hxs
  have hve : v = .slice none 0 0 := by cases hv with
   | sb b o z c k lo n hb _ _ => rw [hβ] at hb; cases hb
   | sbe a q b o z k lo hb => rw [hβ] at hb; cases hb
   | sb0 => rfl
  subst hve
  have raw := app_raw (P := P) w t ty e ht hi hz hzs h0 hz1 none 0 0 [] (by simp) (fun _ => rfl) (Nat.le_refl _) (fun b o hb => by cases hb) ub ys.length ku gl hEu.len hub hnews hEu.one (by simpa using hb) (by simpa using hl)
  rcases raw with ⟨hm, hr⟩ | ⟨hm, hroom, _⟩ | ⟨hm, hgt, cap, rest, hge, hcm, hrest, hr1, hr⟩
  ·have hys : ys = [] := List.eq_nil_of_length_eq_zero hm
   subst hys
   refine ⟨_, w, _, hr, Does.newD h (D' := g.D) (hd := .s none i.size c0) (F := fun _ => False) hnew hput (Dm.le_refl _) h.dw (fun x hx => hx.elim) keep0 (.oa0 _ _ _ _ fun _ h => h) ?_ (fun b j u hu => .inl hu) h.below⟩
   rw [hval]
   exact .sb0 i.size c0 d hat
  ·omega
  ·obtain ⟨g', hg'⟩ := fresh (vs := []) (A := fun _ _ _ => False) (Els.nil _ _ _) (fun _ _ _ h => h.elim) hm cap rest (by simpa using hge) hcm (by simpa using hrest) hr1
   simp only [List.length_nil, Nat.zero_add] at hr hg'
   exact ⟨_, _, _, hr, hg'⟩
 ·-- nothing there any more, and no room
  have hxs : xs = [] := hx0
  subst hxs
  obtain ⟨a1, q1, rfl, hrep⟩ : ∃ a1 q1, v = .slice (sladdr (some (a1, q1))) 0 0 ∧ ∀ g' : Gh, g'.β d = some (.s (some (a0, q0)) i.size 0) → RepM g' (.slice (sladdr (some (a1, q1))) 0 0) (.sb d i.size 0 0) := by
   generalize hn : ([] : List (List M)).length = n at hv
   generalize hlo : (0 : Nat) = lo at hv
   cases hv with
   | sb b o z c k lo n hb hc _ =>
    rw [hβ] at hb; cases hb
    subst hlo
    have : n = 0 := by omega
    subst this
    exact ⟨a0, q0 + 0 * i.size, by simp [sladdr], fun g' hg' => by simpa [sladdr] using RepM.sbe a0 (q0 + 0 * i.size) a0 q0 i.size d 0 hg'⟩
   | sbe a q b o z k lo hb =>
    rw [hβ] at hb; cases hb
    exact ⟨a, q, by simp [sladdr], fun g' hg' => by simpa [sladdr] using RepM.sbe a q a0 q0 i.size d 0 hg'⟩
   | sb0 z c k hb => rw [hβ] at hb; cases hb
  have raw := app_raw (P := P) w t ty e ht hi hz hzs h0 hz1 (some (a1, q1)) 0 0 [] (by simp) (fun _ => rfl) (Nat.le_refl _) (fun b o _ j q hq => by simp at hq) ub ys.length ku gl hEu.len hub hnews hEu.one (by simpa using hb) (by simpa using hl)
  rcases raw with ⟨hm, hr⟩ | ⟨hm, hroom, _⟩ | ⟨hm, hgt, cap, rest, hge, hcm, hrest, hr1, hr⟩
  ·have hys : ys = [] := List.eq_nil_of_length_eq_zero hm
   subst hys
   refine ⟨_, w, _, hr, Does.newD h (D' := g.D) (hd := .s (some (a0, q0)) i.size 0) (F := fun _ => False) hnew hput (Dm.le_refl _) h.dw (fun x hx => hx.elim) keep0 (.oae _ _ _ _ _ fun _ h => h) ?_ (fun b j u hu => .inl hu) h.below⟩
   rw [hval]
   exact hrep _ hat
  ·omega
  ·obtain ⟨g', hg'⟩ := fresh (vs := []) (A := fun _ _ _ => False) (Els.nil _ _ _) (fun _ _ _ h => h.elim) hm cap rest (by simpa using hge) hcm (by simpa using hrest) hr1
   simp only [List.length_nil, Nat.zero_add] at hr hg'
   exact ⟨_, _, _, hr, hg'⟩
 ·have hAk : ∀ i j x, A i j x → g.φ k x := fun i' j x hx => (hF x).2 (.inr ⟨i', j, hx⟩)
  have hbk : g.φ k b := (hF b).2 (.inl rfl)
  -- the slice's own form
  obtain ⟨b1, o1, hve, hsame, hsbe⟩ : ∃ b1 o1, v = .slice (sladdr (some (b1, o1))) xs.length c ∧ (c ≠ 0 → b1 = b ∧ o1 = o) ∧ ∀ g' : Gh, g'.β d = some (.s (some (b, o)) i.size c) → RepM g' (.slice (sladdr (some (b1, o1))) xs.length c) (.sb d i.size 0 xs.length) := by
   generalize hn : xs.length = n at hv
   generalize hlo : (0 : Nat) = lo at hv
   cases hv with
   | sb b' o' z c' k lo n hb hcn hnn =>
    rw [hβ] at hb; cases hb
    subst hlo
    refine ⟨b, o + 0 * i.size, by simp [sladdr], fun _ => ⟨rfl, by omega⟩, fun g' hg' => ?_⟩
    have := RepM.sb (g := g') b o i.size c d 0 n hg' hcn hnn
    simpa [sladdr] using this
   | sbe a q b' o' z k lo hb =>
    rw [hβ] at hb; cases hb
    subst hlo
    exact ⟨a, q, by simp [sladdr], fun h => absurd rfl h, fun g' hg' => by simpa [sladdr] using RepM.sbe a q b o i.size d 0 hg'⟩
   | sb0 z c k hb => rw [hβ] at hb; cases hb
  subst hve
  have hvs0 : c = 0 → vs = [] := fun e0 => List.eq_nil_of_length_eq_zero (by rw [hE.len, show xs.length = 0 by omega]; simp)
  have raw := app_raw (P := P) w t ty e ht hi hz hzs h0 hz1 (some (b1, o1)) xs.length c vs hE.len (fun hx => by cases hx) hc.1 (fun b2 o2 he j q hq => by
    cases he
    by_cases hc0 : c = 0
    ·rw [hvs0 hc0] at hq; simp at hq
    ·obtain ⟨rfl, rfl⟩ := hsame hc0
     rw [cell_of_heap hh]; exact hcur j q hq) ub ys.length ku gl hEu.len hub hnews hEu.one hb hl
  rcases raw with ⟨hm, hr⟩ | ⟨hm, hroom, b2, o2, he, hr⟩ | ⟨hm, hgt, cap, rest, hge, hcm, hrest, hr1, hr⟩
  ·have hys : ys = [] := List.eq_nil_of_length_eq_zero hm
   subst hys
   rw [List.append_nil] at hnew
   have hEx := turn (D' := g.D) (hd' := .s (some (b, o)) i.size c) (F := g.φ k) (w' := w) hs hhs (Dm.le_refl _) hE (fun i' j => keep_refl _ _ _)
   refine ⟨_, w, _, hr, Does.newD h (D' := g.D) (hd := .s (some (b, o)) i.size c) (F := g.φ k) hnew hput (Dm.le_refl _) h.dw hksrc keep0 (hEx.box hh hDb hcs h1c h0 hc hAb hcur hF) ?_ (fun b j u hu => .inl hu) h.below⟩
   rw [hval]
   exact hsbe _ hat
  ·cases he
   obtain ⟨rfl, rfl⟩ := hsame (by omega)
   have hr := hr cur cty hh (by rw [hcs]; exact Nat.le_refl _)
   let F : Foot := fun x => x = b1 ∨ ∃ i' j, (if i' < xs.length then A i' j else B (i' - xs.length) j) x
   have hBb : ∀ i' j x, B i' j x → x ≠ b1 := fun i' j x hx e => by subst e; exact hBk _ _ _ hx hbk
   have hfit : o1 + xs.length * i.size + gl.length ≤ cur.toList.length := by
    rw [Array.length_toList (xs := cur), hcs, hEu.len]
    have : (xs.length + ys.length) * i.size ≤ c * i.size := Nat.mul_le_mul_right _ hroom
    rw [Nat.add_mul] at this; omega
   let row : List Value := cur.toList.take (o1 + xs.length * i.size) ++ gl ++ cur.toList.drop (o1 + xs.length * i.size + gl.length)
   have hrl : row.length = cur.size := by
    show (cur.toList.take (o1 + xs.length * i.size) ++ gl ++ cur.toList.drop (o1 + xs.length * i.size + gl.length)).length = _
    simp only [List.length_append, List.length_take, List.length_drop]; rw [Array.length_toList (xs := cur)] at hfit ⊢; omega
   have hEx := turn (D' := g.D) (hd' := .s (some (b1, o1)) i.size c) (F := F) (w' := w.setRow b1 row.toArray) hs hhs (Dm.le_refl _) hE (fun i' j => keep_row _ fun hx => hAb i' j _ hx rfl)
   have hEy := turn (D' := g.D) (hd' := .s (some (b1, o1)) i.size c) (F := F) (w' := w.setRow b1 row.toArray) hs' (fun _ h => h) (Dm.le_refl _) hEu (fun i' j => keep_row _ fun hx => hBb i' j _ hx rfl)
   have hEE := hEx.append hEy fun _ _ _ _ x hx hy => hBk _ _ x hy (hAk _ _ x hx)
   refine ⟨_, _, _, hr, Does.newD h (D' := g.D) (hd := .s (some (b1, o1)) i.size c) (F := F) hnew hput (Dm.le_refl _) (inW_row h.dw hDb _) (fun x hx => ?_) (fun q oq hq hqd => keep_row _ fun hx => ?_)
    (hEE.box (setRow_heap w b1 cur row.toArray _ _ hh) hDb (by rw [List.size_toArray, hrl]; exact hcs) (fun u hu => ?_) h0 ⟨by rw [List.length_append]; exact hroom, by rw [List.length_append]; exact hl, hc.2.2⟩ (fun i' j x hx => ?_) (fun q u hq => ?_) (fun x => Iff.rfl)) ?_
    (fun b j u hu => .inl hu) (h.below.row (h.new k _ b1 hk hkr hbk) _)⟩
   ·rcases hx with hx | ⟨i', j, hx⟩
    ·exact hksrc x (by rw [hx]; exact hbk)
    ·by_cases hlt : i' < xs.length
     ·rw [if_pos hlt] at hx; exact hksrc x (hAk _ _ x hx)
     ·rw [if_neg hlt] at hx; exact hBsrc _ _ x hx
   ·have := h.sep q k oq _ b1 hq hk hx hbk
    subst this
    exact hqd hdel
   ·rw [List.toList_toArray] at hu
    rcases List.mem_append.1 hu with hu | hu
    ·rcases List.mem_append.1 hu with hu | hu
     ·exact h1c u (List.mem_of_mem_take hu)
     ·exact hEu.one u hu
    ·exact h1c u (List.mem_of_mem_drop hu)
   ·by_cases hlt : i' < xs.length
    ·simp only [hlt, if_true] at hx; exact hAb _ _ x hx
    ·simp only [hlt, if_false] at hx; exact hBb _ _ x hx
   ·show row.toArray[o1 + q]? = some u
    rw [List.getElem?_toArray]
    show (cur.toList.take (o1 + xs.length * i.size) ++ gl ++ cur.toList.drop (o1 + xs.length * i.size + gl.length))[o1 + q]? = some u
    rw [lay_get hfit]
    by_cases hqv : q < vs.length
    ·rw [List.getElem?_append_left hqv] at hq
     rw [if_pos (by rw [hE.len] at hqv; omega), Array.getElem?_toList]; exact hcur q u hq
    ·rw [List.getElem?_append_right (by omega), hE.len] at hq
     have hql := (List.getElem?_eq_some_iff.1 hq).1
     rw [hE.len] at hqv
     rw [if_neg (by omega), if_pos (by omega), show o1 + q - (o1 + xs.length * i.size) = q - xs.length * i.size by omega]; exact hq
   ·rw [hval]
    have := RepM.sb (g := g.atD g.D d (.s (some (b1, o1)) i.size c) F) b1 o1 i.size c d 0 (xs.length + ys.length) hat (by omega) hl
    simpa [sladdr] using this
  ·obtain ⟨g', hg'⟩ := fresh hE hAk hm cap rest hge hcm hrest hr1
   exact ⟨_, _, _, hr, hg'⟩
end
end Go.Bm
/- A call. -/
namespace Go.Bm
open Go.RowKit (Below)
theorem idx_spec {k : Nat} : ∀ {l : List Nat} {n i : Nat}, idx k l n = some i → n ≤ i ∧ l[i - n]? = some k
 | [], n, i, h => by simp [idx] at h
 | x :: r, n, i, h => by
  simp only [idx] at h
  cases e : Nat.beq x k with
  | true => rw [e] at h; cases h; exact ⟨Nat.le_refl _, by simp [nbeq_t e]⟩
  | false =>
   rw [e] at h
   obtain ⟨h1, h2⟩ := idx_spec (l := r) h
   refine ⟨by omega, ?_⟩
   rw [show i - n = (i - (n + 1)) + 1 by omega]
   simpa using h2
theorem idx_of {k : Nat} : ∀ {l : List Nat} {n j : Nat}, l.Nodup → l[j]? = some k → idx k l n = some (n + j)
 | [], n, j, _, h => by simp at h
 | x :: r, n, j, hd, h => by
  simp only [idx]
  cases j with
  | zero => simp at h; subst h; simp
  | succ j =>
   have h' : r[j]? = some k := by simpa using h
   have : x ≠ k := fun e => by subst e; exact (List.nodup_cons.1 hd).1 (List.mem_of_getElem? h')
   rw [nbeq_of_ne this, cond_false, idx_of (List.nodup_cons.1 hd).2 h']
   congr 1; omega
theorem distinct_nodup : ∀ {l : List Nat}, distinct l = true → l.Nodup
 | [], _ => List.nodup_nil
 | x :: r, h => by
  simp only [distinct, Bool.and_eq_true, Bool.not_eq_true'] at h
  refine List.nodup_cons.2 ⟨fun hm => ?_, distinct_nodup h.2⟩
  rw [memN_of hm] at h; simp at h
theorem nameOf_inj {bs : List Bk} {i j : Nat} (hi : i < 1000000) (hj : j < 1000000) (h : nameOf bs i = nameOf bs j) : i = j := by
 unfold nameOf at h
 split at h <;> split at h <;> simp only [CB, RB] at h <;> omega
theorem nameOf_ge (bs : List Bk) (i : Nat) : CB ≤ nameOf bs i := by
 unfold nameOf
 split <;> simp only [CB, RB] <;> omega
theorem nameOf_rw {bs : List Bk} {i : Nat} (hi : i < 1000000) (h : nameOf bs i < RB) : bs[i]? ≠ some .same := by
 intro e
 unfold nameOf at h
 rw [e] at h
 simp only [RB] at h; omega
theorem nameOf_is {bs : List Bk} {i : Nat} (h : bs[i]? ≠ some .same) : nameOf bs i = CB + i := by
 unfold nameOf
 split
 ·rename_i e; exact absurd e h
 ·rfl
theorem names_nodup {bs : List Bk} {n : Nat} (hn : n ≤ 1000) : ((List.range n).map (nameOf bs)).Nodup := by
 unfold List.Nodup
 rw [List.pairwise_map]
 exact List.Pairwise.imp_of_mem (fun hi hj hne e => hne (nameOf_inj (by have := List.mem_range.1 hi; omega) (by have := List.mem_range.1 hj; omega) e)) List.nodup_range
structure Lent (bs : List Bk) (L : List Nat) : Prop where
 nd : L.Nodup
 len : L.length = bs.length
 le : L.length ≤ 1000
theorem Lent.inn {bs : List Bk} {L : List Nat} (h : Lent bs L) {k j : Nat} : nameIn bs L k = some j ↔ ∃ i, L[i]? = some k ∧ j = nameOf bs i := by
 unfold nameIn
 constructor
 ·intro e
  split at e
  ·rename_i i hi
   cases e
   exact ⟨i, by simpa using (idx_spec hi).2, rfl⟩
  ·cases e
 ·rintro ⟨i, hi, rfl⟩
  rw [idx_of h.nd hi]
  simp
theorem Lent.out {bs : List Bk} {L : List Nat} (h : Lent bs L) {q k : Nat} : nameOut bs L q = some k ↔ ∃ i, L[i]? = some k ∧ q = nameOf bs i := by
 unfold nameOut
 constructor
 ·intro e
  split at e
  ·rename_i i hi
   obtain ⟨_, h2⟩ := idx_spec hi
   rw [Nat.sub_zero, List.getElem?_map] at h2
   obtain ⟨i', hi', rfl⟩ := Option.map_eq_some_iff.1 h2
   have hlt : i < L.length := (List.getElem?_eq_some_iff.1 e).1
   rw [List.getElem?_range hlt] at hi'
   cases hi'
   exact ⟨i, e, rfl⟩
  ·cases e
 ·rintro ⟨i, hi, rfl⟩
  have hlt : i < L.length := (List.getElem?_eq_some_iff.1 hi).1
  have : ((List.range L.length).map (nameOf bs))[i]? = some (nameOf bs i) := by rw [List.getElem?_map, List.getElem?_range hlt]; rfl
  rw [idx_of (names_nodup h.le) this]
  simpa using hi
theorem namedFrom_look {bs : List Bk} : ∀ {ls : List M} {n q : Nat} {o : M}, lookB (namedFrom bs n ls) q = some o → ∃ i, ls[i]? = some o ∧ q = nameOf bs (n + i)
 | [], n, q, o, h => by simp [namedFrom, lookB] at h
 | m :: r, n, q, o, h => by
  simp only [namedFrom, lookB] at h
  cases e : Nat.beq (nameOf bs n) q with
  | true => rw [e] at h; cases h; exact ⟨0, rfl, (nbeq_t e).symm⟩
  | false =>
   rw [e] at h
   obtain ⟨i, h1, h2⟩ := namedFrom_look (ls := r) h
   exact ⟨i + 1, by simpa using h1, by rw [h2]; congr 1; omega⟩
theorem named_look {bs : List Bk} {ls : List M} {q : Nat} {o : M} (h : lookB (named bs ls) q = some o) : ∃ i, ls[i]? = some o ∧ q = nameOf bs i := by
 obtain ⟨i, h1, h2⟩ := namedFrom_look h
 exact ⟨i, h1, by simpa using h2⟩
theorem namedFrom_of {bs : List Bk} : ∀ {ls : List M} {n i : Nat} {o : M}, n + ls.length ≤ 1000000 → ls[i]? = some o → lookB (namedFrom bs n ls) (nameOf bs (n + i)) = some o
 | [], n, i, o, _, h => by simp at h
 | m :: r, n, i, o, hl, h => by
  simp only [namedFrom, lookB]
  cases i with
  | zero => simp at h; subst h; simp
  | succ i =>
   have h' : r[i]? = some o := by simpa using h
   have hlt : i < r.length := (List.getElem?_eq_some_iff.1 h').1
   simp only [List.length_cons] at hl
   have : nameOf bs n ≠ nameOf bs (n + (i + 1)) := fun e => by have := nameOf_inj (by omega) (by omega) e; omega
   rw [nbeq_of_ne this, cond_false, show n + (i + 1) = (n + 1) + i by omega]
   exact namedFrom_of (by omega) h'
theorem mapBs_spec {f : Nat → Option Nat} {bx : Nat → Option M} : ∀ {L : List Nat} {ls : List M}, mapBs f bx L = some ls → L.length = ls.length ∧
  ∀ (i : Nat) (o : M), ls[i]? = some o → ∃ k b, L[i]? = some k ∧ bx k = some b ∧ mapB f b = some o
 | [], ls, h => by simp [mapBs] at h; subst h; exact ⟨rfl, fun i o h => by simp at h⟩
 | k :: r, ls, h => by
  simp only [mapBs] at h
  split at h
  ·rename_i b hb
   split at h
   ·rename_i x xs hx hxs
    cases h
    obtain ⟨h1, h2⟩ := mapBs_spec hxs
    refine ⟨by simp [h1], fun i o ho => ?_⟩
    cases i with
    | zero => simp at ho; subst ho; exact ⟨k, b, rfl, hb, hx⟩
    | succ i =>
     obtain ⟨k', b', e1, e2, e3⟩ := h2 i o (by simpa using ho)
     exact ⟨k', b', by simpa using e1, e2, e3⟩
   ·cases h
  ·cases h
theorem backB_spec {f : Nat → Option Nat} : ∀ {L : List Nat} {bs : List Bk} {put : List (Nat × M)} {del : List Nat}, L.Nodup → backB f L bs = some (put, del) →
  (∀ k o, lookB put k = some o → ∃ (i : Nat) (m : M), L[i]? = some k ∧ bs[i]? = some (Bk.is m) ∧ mapB f m = some o) ∧ (∀ k, k ∈ names put ↔ ∃ (i : Nat) (m : M), L[i]? = some k ∧ bs[i]? = some (Bk.is m)) ∧
  (∀ k, k ∈ del ↔ ∃ (i : Nat), L[i]? = some k ∧ bs[i]? = some Bk.gone)
 | [], [], put, del, _, h => by
  simp only [backB, Option.some.injEq, Prod.mk.injEq] at h
  obtain ⟨rfl, rfl⟩ := h
  exact ⟨fun k o h => by simp [lookB] at h, fun k => by simp [names], fun k => by simp⟩
 | [], _ :: _, put, del, _, h => by simp [backB] at h
 | _ :: _, [], put, del, _, h => by simp [backB] at h
 | k :: r, b :: bs, put, del, hnd, h => by
  simp only [backB] at h
  obtain ⟨hkr, hr⟩ := List.nodup_cons.1 hnd
  split at h
  ·rename_i l d hb
   obtain ⟨h1, h2, h3⟩ := backB_spec hr hb
   have sh1 : ∀ k' o, lookB l k' = some o → ∃ (i : Nat) (m : M), (k :: r)[i]? = some k' ∧ (b :: bs)[i]? = some (Bk.is m) ∧ mapB f m = some o := fun k' o ho => by
    obtain ⟨i, m, e1, e2, e3⟩ := h1 k' o ho
    exact ⟨i + 1, m, by simpa using e1, by simpa using e2, e3⟩
   have sh2 : ∀ k', (∃ (i : Nat) (m : M), (k :: r)[i]? = some k' ∧ (b :: bs)[i]? = some (Bk.is m)) ↔ (k = k' ∧ ∃ (m : M), b = Bk.is m) ∨ k' ∈ names l := fun k' => by
    rw [h2 k']
    constructor
    ·rintro ⟨i, m, e1, e2⟩
     cases i with
     | zero => simp at e1 e2; exact .inl ⟨e1, m, e2⟩
     | succ i => exact .inr ⟨i, m, by simpa using e1, by simpa using e2⟩
    ·rintro (⟨e1, m, e2⟩ | ⟨i, m, e1, e2⟩)
     ·exact ⟨0, m, by simp [e1], by simp [e2]⟩
     ·exact ⟨i + 1, m, by simpa using e1, by simpa using e2⟩
   have sh3 : ∀ k', (∃ (i : Nat), (k :: r)[i]? = some k' ∧ (b :: bs)[i]? = some Bk.gone) ↔ (k = k' ∧ b = Bk.gone) ∨ k' ∈ d := fun k' => by
    rw [h3 k']
    constructor
    ·rintro ⟨i, e1, e2⟩
     cases i with
     | zero => simp at e1 e2; exact .inl ⟨e1, e2⟩
     | succ i => exact .inr ⟨i, by simpa using e1, by simpa using e2⟩
    ·rintro (⟨e1, e2⟩ | ⟨i, e1, e2⟩)
     ·exact ⟨0, by simp [e1], by simp [e2]⟩
     ·exact ⟨i + 1, by simpa using e1, by simpa using e2⟩
   cases b with
   | same =>
    simp only [Option.some.injEq, Prod.mk.injEq] at h
    obtain ⟨rfl, rfl⟩ := h
    exact ⟨sh1, fun k' => by rw [sh2 k']; simp, fun k' => by rw [sh3 k']; simp⟩
   | gone =>
    simp only [Option.some.injEq, Prod.mk.injEq] at h
    obtain ⟨rfl, rfl⟩ := h
    exact ⟨sh1, fun k' => by rw [sh2 k']; simp, fun k' => by rw [sh3 k']; simp [eq_comm]⟩
   | is x =>
    simp only at h
    split at h
    ·rename_i y hy
     simp only [Option.some.injEq, Prod.mk.injEq] at h
     obtain ⟨rfl, rfl⟩ := h
     refine ⟨fun k' o ho => ?_, fun k' => by rw [sh2 k']; simp [names, eq_comm], fun k' => by rw [sh3 k']; simp⟩
     simp only [lookB] at ho
     cases e : Nat.beq k k' with
     | true => rw [e] at ho; cases ho; exact ⟨0, x, by simp [nbeq_t e], by simp, hy⟩
     | false => rw [e] at ho; exact sh1 k' o ho
    ·cases h
  ·cases h
theorem allRw_spec : ∀ {L : List Nat} {bs : List Bk}, allRw L bs = true → ∀ (i k : Nat) (b : Bk), L[i]? = some k → bs[i]? = some b → b ≠ .same → k < RB
 | [], _, _, i, k, b, h, _, _ => by simp at h
 | _ :: _, [], _, i, k, b, _, h, _ => by simp at h
 | x :: r, y :: bs, h, i, k, b, h1, h2, h3 => by
  simp only [allRw, Bool.and_eq_true] at h
  cases i with
  | zero =>
   simp at h1 h2
   subst h1 h2
   cases y with
   | same => exact absurd rfl h3
   | gone => exact (by have := h.1; simp only at this; exact Nat.le_of_ble_eq_true this)
   | is m => exact (by have := h.1; simp only at this; exact Nat.le_of_ble_eq_true this)
  | succ i => exact allRw_spec h.2 i k b (by simpa using h1) (by simpa using h2) h3
mutual
theorem mapH_has {f : Nat → Option Nat} {k : Nat} : ∀ {m m' : M}, mapH f m = some m' → hasH k m' = true → ∃ q, f q = some k
 | .any, m', h, hk => by simp [mapH] at h; subst h; simp [hasH] at hk
 | .t x, m', h, hk => by simp [mapH] at h; subst h; simp [hasH] at hk
 | .tight xs, m', h, hk => by simp [mapH] at h; subst h; simp [hasH] at hk
 | .cp cs, m', h, hk => by simp [mapH] at h; subst h; simp [hasH] at hk
 | .own _ _ xs, m', h, hk => by simp [mapH] at h; subst h; simp [hasH] at hk
 | .os cs, m', h, hk => by simp [mapH] at h; subst h; simp [hasH] at hk
 | .oa _ _ xs, m', h, hk => by simp [mapH] at h; subst h; simp [hasH] at hk
 | .op _ xs, m', h, hk => by simp [mapH] at h; subst h; simp [hasH] at hk
 | .om _ xs, m', h, hk => by simp [mapH] at h; subst h; simp [hasH] at hk
 | .agg cs, m', h, hk => by
  simp only [mapH] at h
  split at h
  ·rename_i ds hds; cases h; exact mapHs_has hds (by simpa [hasH] using hk)
  ·cases h
 | .clo _ cs, m', h, hk => by
  simp only [mapH] at h
  split at h
  ·rename_i ds hds; cases h; exact mapHs_has hds (by simpa [hasH] using hk)
  ·cases h
 | .tup cs, m', h, hk => by
  simp only [mapH] at h
  split at h
  ·rename_i ds hds; cases h; exact mapHs_has hds (by simpa [hasH] using hk)
  ·cases h
 | .ptr q o, m', h, hk => by
  simp only [mapH] at h
  split at h
  ·rename_i j hj; cases h; have := nbeq_t (show Nat.beq j k = true from hk); exact ⟨q, this ▸ hj⟩
  ·cases h
 | .pe q i o, m', h, hk => by
  simp only [mapH] at h
  split at h
  ·rename_i j hj; cases h; have := nbeq_t (show Nat.beq j k = true from hk); exact ⟨q, this ▸ hj⟩
  ·cases h
 | .sb q z lo n, m', h, hk => by
  simp only [mapH] at h
  split at h
  ·rename_i j hj; cases h; have := nbeq_t (show Nat.beq j k = true from hk); exact ⟨q, this ▸ hj⟩
  ·cases h
 | .mp q, m', h, hk => by
  simp only [mapH] at h
  split at h
  ·rename_i j hj; cases h; have := nbeq_t (show Nat.beq j k = true from hk); exact ⟨q, this ▸ hj⟩
  ·cases h
theorem mapHs_has {f : Nat → Option Nat} {k : Nat} : ∀ {cs ds : List M}, mapHs f cs = some ds → hasHs k ds = true → ∃ q, f q = some k
 | [], ds, h, hk => by simp [mapHs] at h; subst h; simp [hasHs] at hk
 | c :: cs, ds, h, hk => by
  simp only [mapHs] at h
  split at h
  ·rename_i x ys hx hys
   cases h
   simp only [hasHs, Bool.or_eq_true] at hk
   rcases hk with hk | hk
   ·exact mapH_has hx hk
   ·exact mapHs_has hys hk
  ·cases h
end
theorem RepR.map {g g' : Gh} {f : Nat → Option Nat} {w : World} (hD : g'.D = g.D) (hβ : ∀ k j, f k = some j → ∀ b, g.β k = some b → g'.β j = some b) :
  ∀ {r : M} {v : Value} {F : Foot}, RepR g w r v F → ∀ {r' : M}, mapH f r = some r' → RepR g' w r' v F := by
 have hle : g.D.le g'.D := hD ▸ Dm.le_refl _
 intro r v F h
 induction h with
 | leaf m v F h hF => intro r' hm; exact .leaf r' v F (mapH_rep hle hβ m h hm) hF
 | own m v F ho h => intro r' hm; rw [mapH_owned hm ho]; exact .own m v F ho (hD ▸ h)
 | agg vs cs A F hl hA hdis hF h ih =>
  intro r' hm
  simp only [mapH] at hm
  split at hm
  ·rename_i ds hds
   cases hm
   obtain ⟨e1, e2⟩ := mapHs_get hds
   exact .agg vs ds A F (hl.trans e1) (fun j x hx => e1 ▸ hA j x hx) hdis hF fun j v d hv hd => by
    obtain ⟨c, hc, hmc⟩ := e2 j d hd
    exact ih j v c hv hc hmc
  ·cases hm
 | tup vs cs A F hl hA hdis hF h ih =>
  intro r' hm
  simp only [mapH] at hm
  split at hm
  ·rename_i ds hds
   cases hm
   obtain ⟨e1, e2⟩ := mapHs_get hds
   exact .tup vs ds A F (hl.trans e1) (fun j x hx => e1 ▸ hA j x hx) hdis hF fun j v d hv hd => by
    obtain ⟨c, hc, hmc⟩ := e2 j d hd
    exact ih j v c hv hc hmc
  ·cases hm
end Go.Bm
