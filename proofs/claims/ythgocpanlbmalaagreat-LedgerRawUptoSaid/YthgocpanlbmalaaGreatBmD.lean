import Derived.Test.YthgocpanlbmalaaGreatBmC
set_option linter.unusedVariables false
set_option linter.unusedSimpArgs false
/- A call, within a frame. -/
namespace Go.Bm
open Go.RowKit (Below)
def Gh.lent (g : Gh) (bs : List Bk) (L : List Nat) : Gh :=
 ⟨g.D, fun q => match nameOut bs L q with | some k => g.β k | none => none, fun q x => ∃ k, nameOut bs L q = some k ∧ g.φ k x⟩
section
variable {P : Program} {D0 : Dm} {w0 : World} {X : Foot} {DF : Env} {g : Gh} {st : St} {a : Act} {w : World}
theorem lent_inv (h : FInv DF D0 w0 X g st a w) {bs : List Bk} {L : List Nat} {ls : List M} (hL : Lent bs L) (hm : mapBs (nameIn bs L) (lookB st.bx) L = some ls) : LInv (g.lent bs L) (named bs ls) w := by
 obtain ⟨hlen, hsp⟩ := mapBs_spec hm
 have hφ : ∀ i k, L[i]? = some k → (g.lent bs L).φ (nameOf bs i) = g.φ k := fun i k hi => funext fun x => propext ⟨by
   rintro ⟨k', hk', hx⟩
   rw [hL.out.2 ⟨i, hi, rfl⟩] at hk'
   cases hk'; exact hx, fun hx => ⟨k, hL.out.2 ⟨i, hi, rfl⟩, hx⟩⟩
 have hβ : ∀ i k, L[i]? = some k → (g.lent bs L).β (nameOf bs i) = g.β k := fun i k hi => by
  show (match nameOut bs L (nameOf bs i) with | some k => g.β k | none => none) = _
  rw [hL.out.2 ⟨i, hi, rfl⟩]
 refine ⟨fun q o hq => ?_, fun q q' o o' x hq hq' hx hx' => ?_, h.dw⟩
 ·obtain ⟨i, hi, rfl⟩ := named_look hq
  obtain ⟨k, b, e1, e2, e3⟩ := hsp i o hi
  obtain ⟨hd, hb, hok⟩ := h.bx k b e2
  refine ⟨hd, by rw [hβ i k e1]; exact hb, ?_⟩
  rw [hφ i k e1]
  refine mapB_ok (g := g) (g' := g.lent bs L) (f := nameIn bs L) (Dm.le_refl _) (fun q j hj b hb => ?_) hok e3 (keep_refl _ _ _)
  obtain ⟨i', hi', rfl⟩ := hL.inn.1 hj
  rw [hβ i' q hi']; exact hb
 ·obtain ⟨i, hi, rfl⟩ := named_look hq
  obtain ⟨i', hi', rfl⟩ := named_look hq'
  obtain ⟨k, b, e1, e2, e3⟩ := hsp i o hi
  obtain ⟨k', b', e1', e2', e3'⟩ := hsp i' o' hi'
  rw [hφ i k e1] at hx
  rw [hφ i' k' e1'] at hx'
  have := h.sep k k' b b' x e2 e2' hx hx'
  subst this
  have h1 := (List.getElem?_inj (by have := (List.getElem?_eq_some_iff.1 e1).1; exact this) hL.nd).1 (e1.trans e1'.symm)
  rw [h1]
theorem call_does (h : FInv DF D0 w0 X g st a w) {bs : List Bk} {L : List Nat} {ls : List M} (hL : Lent bs L) (hrw : allRw L bs = true) (hm : mapBs (nameIn bs L) (lookB st.bx) L = some ls)
  {put : List (Nat × M)} {del : List Nat} (hback : backB (nameOut bs L) L bs = some (put, del)) {gr : Gh} {w' : World} (hc : CameG (g.lent bs L) w ls bs gr w')
  {e : Eff} (hput : e.put = put) (hdel : e.del = del) {v : Value} (hfree : ∀ k ∈ names e.new, FreeP st k) {hd : Nat → Hd} {φn : Nat → Foot} {F : Foot}
  (hbox : ∀ k o, lookB e.new k = some o → ∀ g' : Gh, g'.D = gr.D → BoxOk g' w' o (hd k) (φn k)) (hsub : ∀ k x, k ∈ names e.new → φn k x → F x)
  (hdis : ∀ k k' x, k ∈ names e.new → k' ∈ names e.new → φn k x → φn k' x → k = k') (hsrc : ∀ b, F b → w.heap.size ≤ b ∨ LX (g.lent bs L) bs ls b) (hapart : ∀ i m b, bs[i]? = some (.is m) → i < ls.length → F b → ¬ gr.φ (CB + i) b)
  (hval : ∀ g'' : Gh, g''.D = gr.D → (∀ k, k ∉ names e.new → g''.β k = g.β k) → (∀ k ∈ names e.new, g''.β k = some (hd k)) → RepM g'' v e.val) : ∃ g', Does w0 X D0 g st.bx w e g' v w' := by
 obtain ⟨hlen, hsp⟩ := mapBs_spec hm
 obtain ⟨hb1, hb2, hb3⟩ := backB_spec hL.nd hback
 have hLb : ∀ (i k : Nat), L[i]? = some k → ∃ b, lookB st.bx k = some b := fun i k hi => by
  have hlt : i < ls.length := by rw [← hlen]; exact (List.getElem?_eq_some_iff.1 hi).1
  obtain ⟨k', b, e1, e2, _⟩ := hsp i _ (List.getElem?_eq_getElem hlt)
  rw [hi] at e1; cases e1
  exact ⟨b, e2⟩
 have hLn : ∀ (i k : Nat), L[i]? = some k → k ∉ names e.new := fun i k hi hk => by
  obtain ⟨b, hb⟩ := hLb i k hi
  rw [(hfree k hk).b] at hb; cases hb
 have inj : ∀ (i i' k : Nat), L[i]? = some k → L[i']? = some k → i = i' := fun i i' k hi hi' =>
  (List.getElem?_inj (List.getElem?_eq_some_iff.1 hi).1 hL.nd).1 (hi.trans hi'.symm)
 have hlx : ∀ x, LX (g.lent bs L) bs ls x → ∃ (i k : Nat) (o : M), L[i]? = some k ∧ bs[i]? ≠ some Bk.same ∧ lookB st.bx k = some o ∧ k < RB ∧ g.φ k x ∧ (k ∈ e.del ∨ k ∈ names e.put) := by
  rintro x ⟨q, o, hq, hlt, k', hk', hx⟩
  obtain ⟨i, hi, rfl⟩ := named_look hq
  obtain ⟨k, b, e1, e2, _⟩ := hsp i o hi
  rw [hL.out.2 ⟨i, e1, rfl⟩] at hk'
  have hkk : k = k' := by simpa using hk'
  subst hkk
  have hns := nameOf_rw (bs := bs) (i := i) (by have := (List.getElem?_eq_some_iff.1 e1).1; have := hL.le; omega) hlt
  have hi' : i < bs.length := by rw [← hL.len]; exact (List.getElem?_eq_some_iff.1 e1).1
  have hbi := List.getElem?_eq_getElem hi'
  refine ⟨i, k, b, e1, hns, e2, allRw_spec hrw i k _ e1 hbi (fun e => hns (by rw [hbi, e])), hx, ?_⟩
  cases hbk : bs[i] with
  | same => exact absurd (by rw [hbi, hbk]) hns
  | gone => exact .inl (by rw [hdel]; exact (hb3 k).2 ⟨i, e1, by rw [hbi, hbk]⟩)
  | is m => exact .inr (by rw [hput]; exact (hb2 k).2 ⟨i, m, e1, by rw [hbi, hbk]⟩)
 have hgrβ : ∀ (i k : Nat), L[i]? = some k → gr.β (nameOf bs i) = g.β k := fun i k hi => by
  rw [hc.β _ (nameOf_ge bs i)]
  show (match nameOut bs L (nameOf bs i) with | some k => g.β k | none => none) = _
  rw [hL.out.2 ⟨i, hi, rfl⟩]
 let φ'' : Nat → Foot := fun k => if k ∈ names e.new then φn k else if k ∈ names e.put then (match nameIn bs L k with | some j => gr.φ j | none => g.φ k) else g.φ k
 let g'' : Gh := ⟨gr.D, fun k => if k ∈ names e.new then some (hd k) else g.β k, φ''⟩
 have φnew : ∀ k, k ∈ names e.new → φ'' k = φn k := fun k hk => by show (if k ∈ names e.new then φn k else _) = _; rw [if_pos hk]
 have φput : ∀ (i k : Nat) (m : M), L[i]? = some k → bs[i]? = some (.is m) → φ'' k = gr.φ (CB + i) := fun i k m hi hbi => by
  show (if k ∈ names e.new then φn k else if k ∈ names e.put then (match nameIn bs L k with | some j => gr.φ j | none => g.φ k) else g.φ k) = _
  rw [if_neg (hLn i k hi), if_pos (by rw [hput]; exact (hb2 k).2 ⟨i, m, hi, hbi⟩), hL.inn.2 ⟨i, hi, rfl⟩]
  show gr.φ (nameOf bs i) = _
  rw [nameOf_is (by rw [hbi]; simp)]
 have putI : ∀ k, k ∈ names e.put → ∃ (i : Nat) (m : M), L[i]? = some k ∧ bs[i]? = some (.is m) ∧ i < ls.length := fun k hk => by
  rw [hput] at hk
  obtain ⟨i, m, e1, e2⟩ := (hb2 k).1 hk
  exact ⟨i, m, e1, e2, by rw [← hlen]; exact (List.getElem?_eq_some_iff.1 e1).1⟩
 have hsame : ∀ k o, lookB st.bx k = some o → k ∉ e.del → k ∉ names e.put → ∀ x, g.φ k x → ¬ LX (g.lent bs L) bs ls x := fun k o hk hd1 hd2 x hx hl => by
  obtain ⟨i, k0, o0, e1, _, e3, _, e5, e6⟩ := hlx x hl
  have := h.sep k k0 o o0 x hk e3 hx e5
  subst this
  rcases e6 with e6 | e6
  ·exact hd1 e6
  ·exact hd2 e6
 refine ⟨g'', hc.D, hc.inW, fun k hk => by show (if k ∈ names e.new then _ else _) = _; rw [if_neg hk], hval g'' rfl (fun k hk => by show (if k ∈ names e.new then _ else _) = _; rw [if_neg hk]) (fun k hk => by show (if k ∈ names e.new then _ else _) = _; rw [if_pos hk]),
  fun k o hk => ?_, fun k o hk h1 h2 h3 => ?_, fun k b hk hb => ?_, fun k k' b hk hk' hb hb' => ?_, fun b j u hu => ?_, ?_⟩
 ·rcases hk with hk | ⟨hk0, hk⟩
  ·have hm' := lookB_mem hk
   refine ⟨hd k, by show (if k ∈ names e.new then _ else _) = _; rw [if_pos hm'], ?_⟩
   show BoxOk g'' w' o (hd k) (φ'' k)
   rw [φnew k hm']
   exact hbox k o hk g'' rfl
  ·rw [hput] at hk
   obtain ⟨i, m, e1, e2, e3⟩ := hb1 k o hk
   have hlt : i < ls.length := by rw [← hlen]; exact (List.getElem?_eq_some_iff.1 e1).1
   obtain ⟨hh, hβ, hok⟩ := hc.box i m e2 hlt
   have hni := nameOf_is (bs := bs) (i := i) (by rw [e2]; simp)
   refine ⟨hh, ?_, ?_⟩
   ·show (if k ∈ names e.new then _ else _) = _
    rw [if_neg (hLn i k e1), ← hgrβ i k e1, hni]; exact hβ
   ·show BoxOk g'' w' o hh (φ'' k)
    rw [φput i k m e1 e2]
    refine mapB_ok (g := gr) (g' := g'') (f := nameOut bs L) (Dm.le_refl _) (fun q j hj b hb => ?_) hok e3 (keep_refl _ _ _)
    obtain ⟨i', hi', rfl⟩ := hL.out.1 hj
    show (if j ∈ names e.new then _ else _) = _
    rw [if_neg (hLn i' j hi'), ← hgrβ i' j hi']; exact hb
 ·refine ⟨by show (if k ∈ names e.new then φn k else if k ∈ names e.put then (match nameIn bs L k with | some j => gr.φ j | none => g.φ k) else g.φ k) = _; rw [if_neg h3, if_neg h2], fun x hx => ?_⟩
  have hlt := h.lt hk x hx
  have hnl := hsame k o hk h1 h2 x hx
  refine ⟨hc.below.block x hlt hnl, fun j => ?_⟩
  show gr.D x j = g.D x j
  cases e1 : gr.D x j with
  | some u =>
   rcases hc.dnew x j u e1 with h' | h' | h'
   ·exact h'.symm
   ·omega
   ·exact absurd h' hnl
  | none =>
   cases e2 : g.D x j with
   | none => rfl
   | some u => have := hc.D x j u e2; rw [e1] at this; cases this
 ·have conv : LX (g.lent bs L) bs ls b → ∃ k0 o0, lookB st.bx k0 = some o0 ∧ (k0 ∈ e.del ∨ k0 ∈ names e.put) ∧ (k < RB → k0 < RB) ∧ g.φ k0 b := fun hl => by
   obtain ⟨_, k0, o0, _, _, e3, e4, e5, e6⟩ := hlx b hl
   exact ⟨k0, o0, e3, e6, fun _ => e4, e5⟩
  by_cases hn : k ∈ names e.new
  ·have hb' : φn k b := by rw [← φnew k hn]; exact hb
   exact (hsrc b (hsub k b hn hb')).imp id conv
  ·have hp : k ∈ names e.put := hk.resolve_left hn
   obtain ⟨i, m, e1, e2, hlt⟩ := putI k hp
   have hb' : gr.φ (CB + i) b := by rw [← φput i k m e1 e2]; exact hb
   exact (hc.src i m b e2 hlt hb').imp id conv
 ·by_cases hn : k ∈ names e.new
  ·have hb1' : φn k b := by rw [← φnew k hn]; exact hb
   by_cases hn' : k' ∈ names e.new
   ·have hb2' : φn k' b := by rw [← φnew k' hn']; exact hb'
    exact hdis k k' b hn hn' hb1' hb2'
   ·obtain ⟨i, m, e1, e2, hlt⟩ := putI k' (hk'.resolve_left hn')
    have hb2' : gr.φ (CB + i) b := by rw [← φput i k' m e1 e2]; exact hb'
    exact absurd hb2' (hapart i m b e2 hlt (hsub k b hn hb1'))
  ·obtain ⟨i, m, e1, e2, hlt⟩ := putI k (hk.resolve_left hn)
   have hb1' : gr.φ (CB + i) b := by rw [← φput i k m e1 e2]; exact hb
   by_cases hn' : k' ∈ names e.new
   ·have hb2' : φn k' b := by rw [← φnew k' hn']; exact hb'
    exact absurd hb1' (hapart i m b e2 hlt (hsub k' b hn' hb2'))
   ·obtain ⟨i', m', e1', e2', hlt'⟩ := putI k' (hk'.resolve_left hn')
    have hb2' : gr.φ (CB + i') b := by rw [← φput i' k' m' e1' e2']; exact hb'
    have := hc.dis i i' m m' b e2 e2' hlt hlt' hb1' hb2'
    subst this
    rw [e1] at e1'
    cases e1'; rfl
 ·rcases hc.dnew b j u hu with hu | hu | hu
  ·exact h.dnew b j u hu
  ·exact .inr (.inl (Nat.le_trans h.below.size hu))
  ·obtain ⟨_, k0, o0, _, _, e3, e4, e5, _⟩ := hlx b hu
   exact .inr (h.new k0 o0 b e3 e4 e5)
 ·refine ⟨hc.below.os.trans h.below.os, hc.below.tape.trans h.below.tape, hc.below.output.trans h.below.output, Nat.le_trans h.below.size hc.below.size, fun q hq hx => ?_⟩
  refine (hc.below.block q (Nat.lt_of_lt_of_le hq h.below.size) fun hl => ?_).trans (h.below.block q hq hx)
  obtain ⟨_, k0, o0, _, _, e3, e4, e5, _⟩ := hlx q hl
  rcases h.new k0 o0 q e3 e4 e5 with h' | h'
  ·omega
  ·exact hx h'
theorem callF_sim (h : FInv DF D0 w0 X g st a w) {o : Oper} {c : Call} (ho : o.op = .call c) {os : List O} {r : Res} (hs : callF st.sg (lookB st.bx) c os = some r)
  (hc : ∀ c ∈ r.cs, CallOk P c.1 c.2.1 c.2.2.1 c.2.2.2.1 c.2.2.2.2) (hfree : ∀ k ∈ names r.eff.new, FreeP st k) {K : Act → World → Prop} {Q : Exit → Act → World → Prop}
  (hK : r.eff.stop = none → ∀ g' v w', Does w0 X D0 g st.bx w r.eff g' v w' → K (a.put o.dst v) w')
  (hQ : ∀ x, r.eff.stop = some x → ∀ g' v w', Does w0 X D0 g st.bx w r.eff g' v w' → Q (.panic [{ v := x, recovered := false }]) a w') : o.wp P a w K Q := by
 obtain ⟨dst, op, type, pos, after, guard⟩ := o
 simp only at ho
 subst ho
 unfold callF at hs
 split at hs
 case h_2 => cases hs
 rename_i f ms oc L bs base os' hcal
 cases hcond : distinct L && Nat.beq L.length bs.length && allRw L bs && Nat.ble L.length 1000 with
 | false => rw [hcond] at hs; cases hs
 | true =>
  rw [hcond] at hs
  simp only [cond_true] at hs
  simp only [Bool.and_eq_true] at hcond
  have hL : Lent bs L := ⟨distinct_nodup hcond.1.1.1, nbeq_t hcond.1.1.2, Nat.le_of_ble_eq_true hcond.2⟩
  have hrw := hcond.1.2
  split at hs
  case h_2 => cases hs
  rename_i as ls has hls
  split at hs
  case h_2 => cases hs
  rename_i put del hback
  have hinv := lent_inv h hL hls
  -- whom is called
  unfold callee at hcal
  split at hcal
  case h_2 => cases hcal
  rename_i x hx
  split at hcal
  case h_2 => cases hcal
  rename_i f' caps ms' hev hevs
  cases hcal
  obtain ⟨vs, hv, hr⟩ := (ev_rep h hev).clo_inv
  have hargs := (evs_rep h hevs).append hr
  have hras : RepL (g.lent bs L) (c.args.toList.map a.eval ++ vs) as := mapHs_rep (g := g) (g' := g.lent bs L) (f := nameIn bs L) (Dm.le_refl _) (fun q j hj b hb => by
   obtain ⟨i, hi, rfl⟩ := hL.inn.1 hj
   show (match nameOut bs L (nameOf bs i) with | some k => g.β k | none => none) = _
   rw [hL.out.2 ⟨i, hi, rfl⟩]; exact hb) _ hargs has
  have e1 : (c.args.toList.map a.eval ++ vs).toArray = (c.args.map a.eval) ++ vs.toArray := by
   apply Array.ext'; simp
  have hrun : (execOp a.eval ⟨dst, .call c, type, pos, after, guard⟩) = callFunc f ((c.args.map a.eval) ++ vs.toArray) := by
   simp only [execOp, resolve, hx, hv, Deferred.ofValue]
   simp [invoke]
  have fin : CallOk P f as ls oc bs → (∀ e w', Came (g.lent bs L) w ls bs oc e w' → (∃ v, e = .returned v ∧ K (a.put dst v) w') ∨ ∃ x, e = .panicked [{ v := x, recovered := false }] ∧ Q (.panic [{ v := x, recovered := false }]) a w') →
    Oper.wp P ⟨dst, .call c, type, pos, after, guard⟩ a w K Q := by
   intro hcall hcame
   have hcall := hcall (g.lent bs L) w _ hinv hras
   rw [e1] at hcall
   unfold Oper.wp
   rw [hrun]
   rcases hcall with ⟨h1, h2⟩ | ⟨v, w', h1, h2⟩
   ·rw [h1]
    refine Calls.mono h2 fun e w' hce => ?_
    rcases hcame e w' hce with ⟨v, rfl, hk⟩ | ⟨x, rfl, hq⟩
    ·exact hk
    ·exact hq
   ·rw [h1]
    rcases hcame _ w' h2 with ⟨v', e, hk⟩ | ⟨x, e, _⟩
    ·cases e; exact hk
    ·cases e
  cases oc with
  | ret r0 =>
   simp only at hs
   split at hs
   case h_2 => cases hs
   rename_i r' hr'
   cases had : adopt base r' with
   | mk m new =>
    rw [had] at hs
    simp only [Option.some.injEq] at hs
    subst hs
    refine fin (hc (f, as, ls, .ret r0, bs) (by simp)) fun e w' hce => .inl ?_
    obtain ⟨gr, hcg, v, F, rfl, hrep, hsrc, hapart⟩ := hce
    refine ⟨v, rfl, ?_⟩
    let g1 : Gh := ⟨gr.D, g.β, g.φ⟩
    have hrep1 : RepR g1 w' r' v F := hrep.map (g := gr) (g' := g1) (f := nameOut bs L) rfl (fun q j hj b hb => by
     obtain ⟨i, hi, rfl⟩ := hL.out.1 hj
     rw [hcg.β _ (nameOf_ge bs i)] at hb
     have hb' : (match nameOut bs L (nameOf bs i) with | some k => g.β k | none => none) = some b := hb
     rw [hL.out.2 ⟨i, hi, rfl⟩] at hb'
     exact hb') hr'
    obtain ⟨hd, φn, hA, hV⟩ := adopt_rep r' hrep1 had
    obtain ⟨g', hD⟩ := call_does (e := { val := m, new := new, put := put, del := del, touch := L }) (v := v) h hL hrw hls hback hcg rfl rfl hfree (fun k o hk g' hg' => hA.box k o hk g' hg') hA.sub hA.dis hsrc hapart
     (fun g'' h1 h2 h3 => hV g'' (by rw [h1]; exact Dm.le_refl _) (fun k hk b hb => by
      obtain ⟨q, hq⟩ := mapH_has hr' hk
      obtain ⟨i, hi, _⟩ := hL.out.1 hq
      have hnn : k ∉ names new := fun hkn => by
       obtain ⟨_, hsp⟩ := mapBs_spec hls
       have hlt : i < ls.length := by rw [← (mapBs_spec hls).1]; exact (List.getElem?_eq_some_iff.1 hi).1
       obtain ⟨k', b', e1, e2, _⟩ := hsp i _ (List.getElem?_eq_getElem hlt)
       rw [hi] at e1; cases e1
       rw [(hfree k hkn).b] at e2; cases e2
      rw [h2 k hnn]; exact hb) h3)
    exact hK rfl g' v w' hD
  | pan x =>
   simp only [Option.some.injEq] at hs
   subst hs
   refine fin (hc (f, as, ls, .pan x, bs) (by simp)) fun e w' hce => .inr ?_
   obtain ⟨gr, hcg, rfl⟩ := hce
   refine ⟨x, rfl, ?_⟩
   obtain ⟨g', hD⟩ := call_does (e := { val := .tup [], put := put, del := del, touch := L, stop := some x }) (v := undef) (hd := fun _ => .m 0) (φn := fun _ _ => False) (F := fun _ => False) h hL hrw hls hback hcg rfl rfl hfree (fun k o hk => by simp [lookB] at hk) (fun k x hk => by simp [names] at hk) (fun k k' x hk => by simp [names] at hk)
    (fun b hb => hb.elim) (fun i m b _ _ hb => hb.elim) (fun g'' _ _ _ => .tup [] [] rfl (fun j v c h => by simp at h))
   exact hQ x rfl g' undef w' hD
def snap (w : World) : Dm := fun b j => w.cell? ⟨b, j, none⟩
theorem Vt.mono {bx bx' : Nat → Option M} (hb : ∀ k o, bx k = some o → bx' k = some o) {m : M} {t : T} (h : Vt bx m t) : Vt bx' m t := by
 induction h with
 | t x => exact .t x
 | tight xs => exact .tight xs
 | own id z xs => exact .own id z xs
 | op z xs => exact .op z xs
 | oa hs z xs ts hl hr h ih => exact .oa hs z xs ts hl hr ih
 | sb k z lo n hs xs ts hk hn h ih => exact .sb k z lo n hs xs ts (hb _ _ hk) hn ih
theorem Vm.mono {bx bx' : Nat → Option M} (hb : ∀ k o, bx k = some o → bx' k = some o) {m m' : M} (h : Vm bx m m') : Vm bx' m m' := by
 induction h with
 | any m => exact .any m
 | t m x h => exact .t m x (h.mono hb)
 | cp cs => exact .cp cs
 | agg cs ds hl h ih => exact .agg cs ds hl ih
 | clo f cs ds hl h ih => exact .clo f cs ds hl ih
 | ptr k o cs ts hk hl h => exact .ptr k o cs ts (hb _ _ hk) hl fun j c r h1 h2 => (h j c r h1 h2).mono hb
 | pe k i o hs z xs cs ts hk hi hl h => exact .pe k i o hs z xs cs ts (hb _ _ hk) hi hl fun j c r h1 h2 => (h j c r h1 h2).mono hb
def RowsIn (S : Dm) (b o z c : Nat) (ts : List (List T)) : Prop :=
 (∀ (i : Nat) (rs : List T), ts[i]? = some rs → rs.length = z) ∧ ts.length ≤ c ∧ ts.length ≤ 274877906944 ∧
  ∀ (i j : Nat) (rs : List T) (r : T), ts[i]? = some rs → rs[j]? = some r → ∃ u, S b (o + (i * z + j)) = some u ∧ RepT S u r
theorem RowsIn.rep {S : Dm} {b o z c : Nat} {ts : List (List T)} (h : RowsIn S b o z c ts) (lo n : Nat) (hn : lo + n ≤ ts.length) : RepT S (.slice (some ⟨b, o + lo * z, none⟩) n (c - lo)) (.sl ((ts.drop lo).take n)) := by
 obtain ⟨h1, h2, h3, h4⟩ := h
 have hg : ∀ i rs, ((ts.drop lo).take n)[i]? = some rs → i < n ∧ ts[lo + i]? = some rs := fun i rs hi => by
  rw [List.getElem?_take] at hi
  split at hi
  ·rename_i hin; rw [List.getElem?_drop] at hi; exact ⟨hin, hi⟩
  ·cases hi
 refine .sl b (o + lo * z) n (c - lo) z _ (fun i j => (S b (o + lo * z + (i * z + j))).getD undef) (by rw [List.length_take, List.length_drop]; omega) ⟨by omega, by omega⟩ (fun i rs hi => h1 _ _ (hg i rs hi).2) (fun i j hi hj => ?_) (fun i j rs r hi hj => ?_)
 ·have hlt : lo + i < ts.length := by omega
  have e := List.getElem?_eq_getElem hlt
  have hz := h1 _ _ e
  obtain ⟨u, hu, _⟩ := h4 (lo + i) j _ _ e (List.getElem?_eq_getElem (by rw [hz]; exact hj))
  have e2 : o + lo * z + (i * z + j) = o + ((lo + i) * z + j) := by rw [Nat.add_mul]; omega
  rw [e2, hu]; rfl
 ·obtain ⟨hin, hi'⟩ := hg i rs hi
  obtain ⟨u, hu, hr⟩ := h4 (lo + i) j _ _ hi' hj
  have e2 : o + lo * z + (i * z + j) = o + ((lo + i) * z + j) := by rw [Nat.add_mul]; omega
  show RepT S ((S b (o + lo * z + (i * z + j))).getD undef) r
  rw [e2, hu]; exact hr
theorem OwC.of_only {g : Gh} {hs : List Nat} {w : World} {m : M} {v : Value} {F : Foot} (h : OwC (g.only hs) w m v F) : OwC g w m v F :=
 h.imp id fun ⟨h, hF⟩ => ⟨h.turn (g := g.only hs) (g' := g) (Dm.le_refl _) (fun k _ b hb => by
  unfold Gh.only at hb
  simp only at hb
  split at hb
  ·exact hb
  ·cases hb), hF⟩
theorem le_snap {g : Gh} {w : World} (dw : g.D.inW w) : g.D.le (snap w) := fun b j v h => dw b j v h
theorem rows_in {g : Gh} {w : World} {b o c z : Nat} {cur : Array Value} {ty : TypeId} {xs : List (List M)} {ts : List (List T)} {A : Nat → Nat → Foot} (hb : w.heap[b]? = some (.cells cur ty (0, 0))) (hs : cur.size = o + c * z)
  (hc : xs.length ≤ c ∧ xs.length ≤ 274877906944 ∧ c ≤ maxLen) (hz : ∀ (i : Nat) (cs : List M), xs[i]? = some cs → cs.length = z)
  (h : ∀ (i j : Nat) (cs : List M) (c : M) (v : Value), xs[i]? = some cs → cs[j]? = some c → cur[o + (i * z + j)]? = some v → OwC g w c v (A i j))
  (hl : xs.length = ts.length) (hr : ∀ (i : Nat) (cs : List M) (rs : List T), xs[i]? = some cs → ts[i]? = some rs → cs.length = rs.length)
  (ih : ∀ (i j : Nat) (cs : List M) (rs : List T) (c : M) (r : T), xs[i]? = some cs → ts[i]? = some rs → cs[j]? = some c → rs[j]? = some r → ∀ v F, OwC g w c v F → RepT (snap w) v r) : RowsIn (snap w) b o z c ts := by
 have hx : ∀ (i : Nat) (rs : List T), ts[i]? = some rs → ∃ cs, xs[i]? = some cs := fun i rs hi => by
  have := (List.getElem?_eq_some_iff.1 hi).1
  exact ⟨_, List.getElem?_eq_getElem (by omega)⟩
 refine ⟨fun i rs hi => ?_, by omega, by omega, fun i j rs r hi hj => ?_⟩
 ·obtain ⟨cs, hcs⟩ := hx i rs hi
  rw [← hr i cs rs hcs hi]; exact hz i cs hcs
 ·obtain ⟨cs, hcs⟩ := hx i rs hi
  have hjl : j < cs.length := by rw [hr i cs rs hcs hi]; exact (List.getElem?_eq_some_iff.1 hj).1
  have hil : i < xs.length := (List.getElem?_eq_some_iff.1 hcs).1
  have hlt : o + (i * z + j) < cur.size := by
   have : (i + 1) * z ≤ c * z := Nat.mul_le_mul_right z (by omega)
   have := hz i cs hcs
   rw [Nat.add_mul] at *; omega
  refine ⟨cur[o + (i * z + j)], by unfold snap; rw [cell_of_heap hb, Array.getElem?_eq_getElem hlt], ?_⟩
  exact ih i j cs rs _ r hcs hi (List.getElem?_eq_getElem hjl) hj _ _ (h i j cs _ _ hcs (List.getElem?_eq_getElem hjl) (Array.getElem?_eq_getElem hlt))
theorem Vt.rep {g : Gh} {B : List (Nat × M)} {w : World} (hL : LInv g B w) {m : M} {t : T} (h : Vt (lookB B) m t) :
  (∀ v F, OwC g w m v F → RepT (snap w) v t) ∧ ∀ hd F, BoxOk g w m hd F → ∀ b o z c ts, hd = .s (some (b, o)) z c → t = .sl ts → (∀ zz xs, m ≠ .op zz xs) → RowsIn (snap w) b o z c ts := by
 have hS := le_snap hL.dw
 have leaf : ∀ {m : M} {x : T}, closeT m = some x → ∀ v F, OwC g w m v F → RepT (snap w) v x := fun {m x} hx v F ho => by
  rcases ho with ho | ⟨ho, _⟩
  ·cases ho with
   | leaf _ _ _ h _ => exact (closeT_rep h hx).mono hS
   | _ => simp [closeT] at hx
  ·exact (closeT_rep ho hx).mono hS
 induction h with
 | t x => exact ⟨leaf rfl, fun hd F hb => by cases hb⟩
 | tight xs => exact ⟨leaf rfl, fun hd F hb => by cases hb⟩
 | own id z xs => exact ⟨leaf rfl, fun hd F hb => by cases hb⟩
 | op z xs =>
  refine ⟨fun v F ho => ?_, fun hd F hb b o z' c ts he ht hm => (hm _ _ rfl).elim⟩
  rcases ho with ho | ⟨ho, _⟩
  ·cases ho with
   | leaf _ _ _ h _ => cases h
   | op _ _ _ _ h _ => exact h.mono hS
  ·cases ho
 | oa hs z xs ts hl hr h ih =>
  refine ⟨fun v F ho => ?_, fun hd F hb b o z' c ts' he ht _ => ?_⟩
  ·rcases ho with ho | ⟨ho, _⟩
   ·cases ho with
    | leaf _ _ _ h _ => cases h
    | oa0 _ _ _ =>
     have : ts = [] := List.eq_nil_of_length_eq_zero (by simpa using hl.symm)
     subst this; exact .nil
    | oae a q _ _ _ =>
     have : ts = [] := List.eq_nil_of_length_eq_zero (by simpa using hl.symm)
     subst this
     exact .sl a q 0 0 z [] (fun _ _ => undef) rfl ⟨Nat.le_refl _, Nat.zero_le _⟩ (fun i cs h => by simp at h) (fun i j h => by omega) (fun i j cs c h => by simp at h)
    | oa b o c _ cur ty _ A _ hb hd hs h1c h0 hc hz hA hdis hF h' =>
     have := (rows_in (g := g) hb hs hc hz (fun i j cs c v h1 h2 h3 => .inl (h' i j cs c v h1 h2 h3)) hl hr (fun i j cs rs c r h1 h2 h3 h4 => (ih i j cs rs c r h1 h2 h3 h4).1)).rep 0 xs.length (by omega)
     simpa [hl] using this
   ·cases ho
  ·cases ht
   cases hb with
   | oa0 _ _ _ _ _ => cases he
   | oae a q _ _ _ _ =>
    cases he
    have : ts = [] := List.eq_nil_of_length_eq_zero (by simpa using hl.symm)
    subst this
    exact ⟨fun i rs h => by simp at h, Nat.zero_le _, Nat.zero_le _, fun i j rs r h => by simp at h⟩
   | oa b o c _ hs' cur ty _ A _ hb hd hs h1c h0 hc hz hA hdis hF h' =>
    cases he
    exact rows_in (g := g) hb hs hc hz (fun i j cs c v h1 h2 h3 => (h' i j cs c v h1 h2 h3).of_only) hl hr (fun i j cs rs c r h1 h2 h3 h4 => (ih i j cs rs c r h1 h2 h3 h4).1)
 | sb k z lo n hs xs ts hk hn h ih =>
  refine ⟨fun v F ho => ?_, fun hd F hb => by cases hb⟩
  have hr : RepM g v (.sb k z lo n) := by
   rcases ho with ho | ⟨ho, _⟩
   ·cases ho with
    | leaf _ _ _ h _ => exact h.of_le (Dm.le_refl _)
   ·exact ho
  have hlen : xs.length = ts.length := by cases h with | oa _ _ _ _ hl _ _ => exact hl
  obtain ⟨hd, hβ, hbox⟩ := hL.bx k _ hk
  cases hr with
  | sb b o _ c _ _ _ hb' hc' hn' =>
   rw [hβ] at hb'; cases hb'
   exact (ih.2 _ _ hbox b o z c ts rfl rfl (by simp)).rep lo n (by omega)
  | sbe a q b o _ _ _ hb' =>
   have : ((ts.drop lo).take 0) = [] := by simp
   rw [this]
   exact .sl a q 0 0 z [] (fun _ _ => undef) rfl ⟨Nat.le_refl _, Nat.zero_le _⟩ (fun i cs h => by simp at h) (fun i j h => by omega) (fun i j cs c h => by simp at h)
  | sb0 _ c _ hb' =>
   have : ((ts.drop 0).take 0) = [] := by simp
   rw [this]; exact .nil
theorem Vm.rep {g : Gh} {B : List (Nat × M)} {w : World} (hL : LInv g B w) {m m' : M} (h : Vm (lookB B) m m') : ∀ {v : Value}, RepM g v m → RepM ⟨snap w, g.β, g.φ⟩ v m' := by
 have hS := le_snap hL.dw
 induction h with
 | any m => intro v _; exact .any v
 | t m x h => intro v hr; exact .t v x ((h.rep hL).1 v (fun _ => False) (.inr ⟨hr, fun _ h => h⟩))
 | cp cs =>
  intro v hr
  obtain ⟨b, off, cell, rfl, hc, hr⟩ := hr.cp_inv
  exact .cp b off cs cell (fun j hj => hS _ _ _ (hc j hj)) (fun j c hc => (hr j c hc).mono hS)
 | agg cs ds hl h ih =>
  intro v hr
  obtain ⟨vs, rfl, hvs⟩ := hr.agg_inv
  refine .agg vs ds (hvs.1.trans hl) fun j v d hv hd => ?_
  have hj : j < cs.length := by rw [hl]; exact (List.getElem?_eq_some_iff.1 hd).1
  exact ih j _ d (List.getElem?_eq_getElem hj) hd (hvs.2 j v _ hv (List.getElem?_eq_getElem hj))
 | clo f cs ds hl h ih =>
  intro v hr
  obtain ⟨vs, rfl, hvs⟩ := hr.clo_inv
  refine .clo f vs ds (hvs.1.trans hl) fun j v d hv hd => ?_
  have hj : j < cs.length := by rw [hl]; exact (List.getElem?_eq_some_iff.1 hd).1
  exact ih j _ d (List.getElem?_eq_getElem hj) hd (hvs.2 j v _ hv (List.getElem?_eq_getElem hj))
 | ptr k o cs ts hk hl h =>
  intro v hr
  obtain ⟨b, rfl, hβ⟩ := hr.ptr_inv
  obtain ⟨hd, hβ', hbox⟩ := hL.bx k _ hk
  rw [hβ] at hβ'; cases hβ'
  generalize g.φ k = F at hbox
  cases hbox with
  | os _ ty vs _ A _ hvl hb hd' hA hdis hF h' =>
   refine .cp b o (ts.drop o) (fun j => vs.getD (o + j) undef) (fun j hj => ?_) (fun j c hc => ?_)
   ·rw [List.length_drop] at hj
    have hlt : o + j < vs.length := by omega
    show snap w b (o + j) = _
    unfold snap
    rw [cell_of_heap hb]
    simp [List.getD, hlt]
   ·rw [List.getElem?_drop] at hc
    have hlt : o + j < ts.length := (List.getElem?_eq_some_iff.1 hc).1
    have h1 := List.getElem?_eq_getElem (l := cs) (i := o + j) (by omega)
    have h2 := List.getElem?_eq_getElem (l := vs) (i := o + j) (by omega)
    have e : vs.getD (o + j) undef = vs[o + j]'(by omega) := by simp [List.getD, h2]
    rw [e]
    exact ((h _ _ _ h1 hc).rep hL).1 _ _ (h' _ _ _ h2 h1)
 | pe k i o hs z xs cs ts hk hi hl h =>
  intro v hr
  obtain ⟨b, q, z', c, rfl, hβ⟩ := hr.pe_inv
  obtain ⟨hd, hβ', hbox⟩ := hL.bx k _ hk
  rw [hβ] at hβ'; cases hβ'
  generalize g.φ k = F at hbox
  cases hbox with
  | oae _ _ _ _ _ _ => simp at hi
  | oa _ _ _ _ _ cur ty _ A _ hb hd' hs' h1c h0 hc hz hA hdis hF h' =>
   have hil : i < xs.length := (List.getElem?_eq_some_iff.1 hi).1
   have hzl := hz i cs hi
   have hlt : ∀ j, j < z → q + (i * z + j) < cur.size := fun j hj => by
    have : (i + 1) * z ≤ c * z := Nat.mul_le_mul_right z (by omega)
    rw [Nat.add_mul] at this; omega
   refine .cp b (q + (i * z + o)) (ts.drop o) (fun j => cur.getD (q + (i * z + (o + j))) undef) (fun j hj => ?_) (fun j c hc => ?_)
   ·rw [List.length_drop] at hj
    have hlt := hlt (o + j) (by omega)
    have e : q + (i * z + o) + j = q + (i * z + (o + j)) := by omega
    show snap w b (q + (i * z + o) + j) = _
    unfold snap
    rw [e, cell_of_heap hb]
    simp [Array.getD_eq_getD_getElem?, hlt]
   ·rw [List.getElem?_drop] at hc
    have hjl : o + j < ts.length := (List.getElem?_eq_some_iff.1 hc).1
    have hlt := hlt (o + j) (by omega)
    have h1 := List.getElem?_eq_getElem (l := cs) (i := o + j) (by omega)
    have h2 := Array.getElem?_eq_getElem hlt
    have e : cur.getD (q + (i * z + (o + j))) undef = cur[q + (i * z + (o + j))] := by simp [Array.getD_eq_getD_getElem?, h2]
    rw [e]
    exact ((h _ _ _ h1 hc).rep hL).1 _ _ (h' i (o + j) cs _ _ hi h1 h2).of_only
theorem noMemT_rep {D D' : Dm} {v : Value} {x : T} (hx : noMemT x = true) (h : RepT D v x) : RepT D' v x := by
 cases h with
 | s _ h => exact .s _ h
 | f b => exact .f b
 | nan b h => exact .nan b h
 | nil => exact .nil
 | spot a => exact .spot a
 | sl b off n cap z xs cell hn hc hz hD hr =>
  cases xs with
  | cons _ _ => simp [noMemT] at hx
  | nil =>
   subst hn
   exact .sl b off 0 cap z [] cell rfl hc hz (fun i j h => by simp at h) (fun i j cs c h => by simp at h)
mutual
theorem noMem_rep {g g' : Gh} {w : World} : ∀ (r : M) {v : Value} {F : Foot}, noMem r = true → RepR g w r v F → RepM g' v r
 | .t x, v, F, hn, h => by
  simp only [noMem] at hn
  cases h with
  | leaf _ _ _ h _ => exact .t v x (noMemT_rep hn h.t_inv)
  | own _ _ _ ho _ => simp [isOwned] at ho
 | .any, v, F, _, _ => .any v
 | .agg cs, v, F, hn, h => by
  simp only [noMem] at hn
  cases h with
  | leaf _ _ _ h _ =>
   obtain ⟨vs, rfl, hl⟩ := h.agg_inv
   exact .agg vs cs hl.1 fun j u c hu hc => (noMems_rep (g := g) (g' := g') (w := w) cs hn hl.1 (fun j v c hv hc => ⟨_, .leaf c v (fun _ => False) (hl.2 j v c hv hc) (fun _ h => h)⟩)).2 j u c hu hc
  | own _ _ _ ho _ => simp [isOwned] at ho
  | agg vs _ A _ hl hA hdis hF h => exact .agg vs cs hl fun j u c hu hc => (noMems_rep (g := g) (g' := g') (w := w) cs hn hl (fun j v c hv hc => ⟨_, h j v c hv hc⟩)).2 j u c hu hc
 | .tup cs, v, F, hn, h => by
  simp only [noMem] at hn
  cases h with
  | leaf _ _ _ h _ =>
   obtain ⟨vs, rfl, hl⟩ := h.tup_inv
   exact .tup vs cs hl.1 fun j u c hu hc => (noMems_rep (g := g) (g' := g') (w := w) cs hn hl.1 (fun j v c hv hc => ⟨_, .leaf c v (fun _ => False) (hl.2 j v c hv hc) (fun _ h => h)⟩)).2 j u c hu hc
  | own _ _ _ ho _ => simp [isOwned] at ho
  | tup vs _ A _ hl hA hdis hF h => exact .tup vs cs hl fun j u c hu hc => (noMems_rep (g := g) (g' := g') (w := w) cs hn hl (fun j v c hv hc => ⟨_, h j v c hv hc⟩)).2 j u c hu hc
 | .tight _, _, _, hn, _ => by simp [noMem] at hn
 | .cp _, _, _, hn, _ => by simp [noMem] at hn
 | .clo _ _, _, _, hn, _ => by simp [noMem] at hn
 | .own _ _ _, _, _, hn, _ => by simp [noMem] at hn
 | .ptr _ _, _, _, hn, _ => by simp [noMem] at hn
 | .pe _ _ _, _, _, hn, _ => by simp [noMem] at hn
 | .sb _ _ _ _, _, _, hn, _ => by simp [noMem] at hn
 | .mp _, _, _, hn, _ => by simp [noMem] at hn
 | .os _, _, _, hn, _ => by simp [noMem] at hn
 | .oa _ _ _, _, _, hn, _ => by simp [noMem] at hn
 | .op _ _, _, _, hn, _ => by simp [noMem] at hn
 | .om _ _, _, _, hn, _ => by simp [noMem] at hn
theorem noMems_rep {g g' : Gh} {w : World} : ∀ (cs : List M) {vs : List Value}, noMems cs = true → vs.length = cs.length → (∀ (j : Nat) (v : Value) (c : M), vs[j]? = some v → cs[j]? = some c → ∃ F, RepR g w c v F) → RepL g' vs cs
 | [], vs, _, hl, _ => by
  have : vs = [] := List.eq_nil_of_length_eq_zero (by simpa using hl)
  subst this; exact .nil g'
 | m :: r, vs, hn, hl, h => by
  simp only [noMems, Bool.and_eq_true] at hn
  cases vs with
  | nil => simp at hl
  | cons v vr =>
   obtain ⟨F, hF⟩ := h 0 v m rfl rfl
   exact .cons (noMem_rep m hn.1 hF) (noMems_rep (g := g) (w := w) r hn.2 (by simpa using hl) fun j u c hu hc => h (j + 1) u c (by simpa using hu) (by simpa using hc))
end
theorem rstr_le (bx : Nat → Option M) (L : List Nat) (k : Nat) (o : M) (h : rstr bx L k = some o) : bx k = some o := by
 unfold rstr at h
 cases e : memN k L with
 | false => rw [e] at h; cases h
 | true => rw [e] at h; exact h
theorem Does.near (h : FInv DF D0 w0 X g st a w) {w' : World} (hb : Below w.heap.size w w') {e : Eff} (h1 : e.new = []) (h2 : e.put = []) {v : Value} (hv : RepM g v e.val) : Does w0 X D0 g st.bx w e g v w' where
 D := Dm.le_refl _
 inW := Dm.inW_below h.dw hb
 β := fun _ _ => rfl
 val := hv
 box := fun k o hk => by rw [h1, h2] at hk; rcases hk with hk | ⟨_, hk⟩ <;> simp [lookB] at hk
 keep := fun k o hk _ _ _ => ⟨rfl, keep_below (h.lt hk) hb⟩
 src := fun k b hk => by rw [h1, h2] at hk; simp [names] at hk
 dis := fun k k' b hk => by rw [h1, h2] at hk; simp [names] at hk
 dnew := h.dnew
 below := h.below.next hb
theorem callB_sim (h : FInv DF D0 w0 X g st a w) {o : Oper} {c : Call} (ho : o.op = .call c) {oc : Oc} {L : List Nat} {as : List M} {os : List O} {r : Res} (hs : callB st.sg (lookB st.bx) c oc L as os = some r)
  (hp : ∀ p ∈ r.ps, p) (hc : ∀ c ∈ r.cs, CallOk P c.1 c.2.1 c.2.2.1 c.2.2.2.1 c.2.2.2.2) {K : Act → World → Prop} {Q : Exit → Act → World → Prop}
  (hK : r.eff.stop = none → ∀ g' v w', Does w0 X D0 g st.bx w r.eff g' v w' → K (a.put o.dst v) w')
  (hQ : ∀ x, r.eff.stop = some x → ∀ g' v w', Does w0 X D0 g st.bx w r.eff g' v w' → Q (.panic [{ v := x, recovered := false }]) a w') : o.wp P a w K Q := by
 obtain ⟨dst, op, type, pos, after, guard⟩ := o
 simp only at ho
 subst ho
 unfold callB at hs
 split at hs
 case h_2 => cases hs
 rename_i f ms hcal
 unfold callee at hcal
 split at hcal
 case h_2 => cases hcal
 rename_i x hx
 split at hcal
 case h_2 => cases hcal
 rename_i f' caps ms' hev hevs
 cases hcal
 obtain ⟨vs, hv, hr⟩ := (ev_rep h hev).clo_inv
 have hargs := (evs_rep h hevs).append hr
 have e1 : (c.args.toList.map a.eval ++ vs).toArray = (c.args.map a.eval) ++ vs.toArray := by
  apply Array.ext'; simp
 have hrun : (execOp a.eval ⟨dst, .call c, type, pos, after, guard⟩) = callFunc f ((c.args.map a.eval) ++ vs.toArray) := by
  simp only [execOp, resolve, hx, hv, Deferred.ofValue]
  simp [invoke]
 let g1 : Gh := ⟨snap w, g.β, g.φ⟩
 have hL1 : LInv g1 (named [] []) w := { bx := fun k o hk => by simp [named, namedFrom, lookB] at hk, sep := fun k k' o o' b hk => by simp [named, namedFrom, lookB] at hk, dw := fun b j v hh => hh }
 have below : ∀ {w' : World}, Belows (LX g1 [] []) w w' → Below w.heap.size w w' := fun {w'} hb =>
  ⟨hb.os, hb.tape, hb.output, hb.size, fun k hk => hb.block k hk (fun ⟨q, o, hq, _⟩ => by simp [named, namedFrom, lookB] at hq)⟩
 have fin : VmL (rstr (lookB st.bx) L) (ms' ++ caps) as → CallOk P f as [] oc [] → (∀ e w', Came g1 w [] [] oc e w' → (∃ v, e = .returned v ∧ K (a.put dst v) w') ∨ ∃ x, e = .panicked [{ v := x, recovered := false }] ∧ Q (.panic [{ v := x, recovered := false }]) a w') →
   Oper.wp P ⟨dst, .call c, type, pos, after, guard⟩ a w K Q := by
  intro hvm hcall hcame
  have hras : RepL g1 (c.args.toList.map a.eval ++ vs) as := by
   refine ⟨hargs.1.trans hvm.1, fun j v m hv hm => ?_⟩
   have hj : j < (ms' ++ caps).length := by rw [hvm.1]; exact (List.getElem?_eq_some_iff.1 hm).1
   exact ((hvm.2 j _ m (List.getElem?_eq_getElem hj) hm).mono (rstr_le _ L)).rep h.toLInv (hargs.2 j v _ hv (List.getElem?_eq_getElem hj))
  have hcall := hcall g1 w _ hL1 hras
  rw [e1] at hcall
  unfold Oper.wp
  rw [hrun]
  rcases hcall with ⟨h1, h2⟩ | ⟨v, w', h1, h2⟩
  ·rw [h1]
   refine Calls.mono h2 fun e w' hce => ?_
   rcases hcame e w' hce with ⟨v, rfl, hk⟩ | ⟨x, rfl, hq⟩
   ·exact hk
   ·exact hq
  ·rw [h1]
   rcases hcame _ w' h2 with ⟨v', e, hk⟩ | ⟨x, e, _⟩
   ·cases e; exact hk
   ·cases e
 cases oc with
 | ret r0 =>
  simp only at hs
  cases hn : noMem r0 with
  | false => rw [hn] at hs; cases hs
  | true =>
   rw [hn] at hs
   simp only [cond_true, Option.some.injEq] at hs
   subst hs
   refine fin (hp _ (by simp)) (hc (f, as, [], .ret r0, []) (by simp)) fun e w' hce => .inl ?_
   obtain ⟨gr, hcg, v, F, rfl, hrep, _, _⟩ := hce
   exact ⟨v, rfl, hK rfl g v w' (Does.near h (below hcg.below) rfl rfl (noMem_rep (g := gr) (g' := g) (w := w') r0 hn hrep))⟩
 | pan x =>
  simp only [Option.some.injEq] at hs
  subst hs
  refine fin (hp _ (by simp)) (hc (f, as, [], .pan x, []) (by simp)) fun e w' hce => .inr ?_
  obtain ⟨gr, hcg, rfl⟩ := hce
  exact ⟨x, rfl, hQ x rfl g undef w' (Does.near h (below hcg.below) rfl rfl (.tup [] [] rfl (fun j v c h => by simp at h)))⟩
theorem callA_sim (h : FInv DF D0 w0 X g st a w) {o : Oper} {c : Call} (ho : o.op = .call c) {os : List O} {r : Res} (hs : callA st.sg (lookB st.bx) c os = some r)
  (hp : ∀ p ∈ r.ps, p) (hc : ∀ c ∈ r.cs, CallOk P c.1 c.2.1 c.2.2.1 c.2.2.2.1 c.2.2.2.2) (hfree : ∀ k ∈ names r.eff.new, FreeP st k) {K : Act → World → Prop} {Q : Exit → Act → World → Prop}
  (hK : r.eff.stop = none → ∀ g' v w', Does w0 X D0 g st.bx w r.eff g' v w' → K (a.put o.dst v) w')
  (hQ : ∀ x, r.eff.stop = some x → ∀ g' v w', Does w0 X D0 g st.bx w r.eff g' v w' → Q (.panic [{ v := x, recovered := false }]) a w') : o.wp P a w K Q := by
 unfold callA at hs
 split at hs
 ·exact callB_sim h ho hs hp hc hK hQ
 ·exact callF_sim h ho hs hc hfree hK hQ
end
end Go.Bm
/- One operation. -/
namespace Go.Bm
open Go.RowKit (Below)
section
variable {P : Program} {D0 : Dm} {w0 : World} {X : Foot} {DF : Env} {g : Gh} {st : St} {a : Act} {w : World}
theorem zeroM_run {t : TypeId} {z : List M} (h : zeroM P t = some z) (w : World) : ∃ v, (zeroValue t).run P w = .ok v w ∧ ∀ g : Gh, RepL g v.cells.toList z := by
 unfold zeroM at h
 split at h
 ·rename_i i hi
  split at h
  ·rename_i v hv
   exact ⟨v, by simp [zeroValue, typeInfo, hi, hv], fun g => ofConsts_rep g h⟩
  ·cases h
 ·cases h
theorem rowOf_spec {e : TypeId} {z by' : Nat} (h : rowOf P e = some (z, by')) : ∃ i v, P.info? e = some i ∧ i.zero = some v ∧ v.cells.size = i.size ∧ 0 < i.size ∧ (∀ q ∈ v.cells.toList, q.oneCell' = true) ∧ i.size = z ∧ i.bytes = by' := by
 unfold rowOf at h
 split at h
 ·rename_i i hi
  split at h
  ·rename_i v hv
   cases hb : Nat.beq v.cells.size i.size && !Nat.beq i.size 0 && v.cells.toList.all one1 with
   | false => rw [hb] at h; cases h
   | true =>
    simp only [hb, cond_true, Option.some.injEq, Prod.mk.injEq] at h
    simp only [Bool.and_eq_true, Bool.not_eq_true'] at hb
    refine ⟨i, v, hi, hv, nbeq_t hb.1.1, Nat.pos_of_ne_zero (nbeq_f hb.1.2), fun q hq => ?_, h.1, h.2⟩
    have := List.all_eq_true.1 hb.2 q hq
    cases q <;> first | rfl | (simp [one1] at this)
  ·cases h
 ·cases h
theorem elemOf_spec {t e : TypeId} (h : elemOf P t = some e) : P.underlying t = some (.slice e) := by
 unfold elemOf at h
 split at h
 ·rename_i e' he; cases h; exact he
 ·cases h
theorem wp_of_run {o : Oper} {K : Act → World → Prop} {Q : Exit → Act → World → Prop} {v : Value} {w' : World} (hr : (execOp a.eval o).run P w = .ok (.value v) w') (h : K (a.put o.dst v) w') : o.wp P a w K Q := by
 unfold Oper.wp; rw [hr]; exact h
theorem wp_of_skip {o : Oper} {K : Act → World → Prop} {Q : Exit → Act → World → Prop} {w' : World} (hr : (execOp a.eval o).run P w = .ok .skip w') (h : K (a.put o.dst undef) w') : o.wp P a w K Q := by
 unfold Oper.wp; rw [hr]; exact h
def RowsL (g : Gh) (z : Nat) : List (List M) → List Value → Prop
 | [], fl => fl = []
 | cs :: r, fl => ∃ us fr, fl = us ++ fr ∧ cs.length = z ∧ allCell cs = true ∧ RepL g us cs ∧ RowsL g z r fr
theorem RowsL.len {g : Gh} {z : Nat} : ∀ {xs : List (List M)} {fl : List Value}, RowsL g z xs fl → fl.length = xs.length * z
 | [], fl, h => by rw [show fl = [] from h]; simp
 | cs :: r, fl, ⟨us, fr, e, h1, _, h3, h4⟩ => by rw [e, List.length_append, h3.1, h1, h4.len]; simp [Nat.add_mul]; omega
theorem RowsL.one {g : Gh} {z : Nat} : ∀ {xs : List (List M)} {fl : List Value}, RowsL g z xs fl → ∀ v ∈ fl, v.oneCell' = true
 | [], fl, h, v, hv => by rw [show fl = [] from h] at hv; simp at hv
 | cs :: r, fl, ⟨us, fr, e, h1, h2, h3, h4⟩, v, hv => by
  rw [e] at hv
  rcases List.mem_append.1 hv with hv | hv
  ·exact h3.one h2 v hv
  ·exact h4.one v hv
theorem RowsL.get {g : Gh} {z : Nat} : ∀ {xs : List (List M)} {fl : List Value}, RowsL g z xs fl → ∀ (i j : Nat) (cs : List M) (c : M) (v : Value), xs[i]? = some cs → cs[j]? = some c → fl[i * z + j]? = some v → RepM g v c ∧ isCell c = true
 | [], fl, h, i, j, cs, c, v, hi, _, _ => by simp at hi
 | ds :: r, fl, ⟨us, fr, e, h1, h2, h3, h4⟩, i, j, cs, c, v, hi, hj, hv => by
  subst e
  cases i with
  | zero =>
   simp at hi; subst hi
   have : j < us.length := by rw [h3.1]; exact (List.getElem?_eq_some_iff.1 hj).1
   rw [Nat.zero_mul, Nat.zero_add, List.getElem?_append_left this] at hv
   exact ⟨h3.2 j v c hv hj, allCell_get h2 hj⟩
  | succ i =>
   have hi' : r[i]? = some cs := by simpa using hi
   rw [List.getElem?_append_right (by rw [h3.1, h1, Nat.add_mul]; omega), h3.1, h1, show (i + 1) * z + j - z = i * z + j by rw [Nat.add_mul]; omega] at hv
   exact h4.get i j cs c v hi' hj hv
theorem RowsL.el {g : Gh} {z : Nat} : ∀ {xs : List (List M)} {fl : List Value}, RowsL g z xs fl → ∀ (i : Nat) (cs : List M), xs[i]? = some cs → cs.length = z
 | [], fl, h, i, cs, hi => by simp at hi
 | ds :: r, fl, ⟨us, fr, e, h1, h2, h3, h4⟩, i, cs, hi => by
  cases i with
  | zero => simp at hi; subst hi; exact h1
  | succ i => exact h4.el i cs (by simpa using hi)
theorem elems_run (h : FInv DF D0 w0 X g st a w) (z : Nat) : ∀ (ps : List (Nat × Operand)) (k : Nat) (xs : List (List M)) (pre rest : List Value),
  elemsM z st.sg k ps = some xs → pre.length = k * z → rest.length = ps.length * z →
  ps.length = xs.length ∧ ∃ fl, RowsL g z xs fl ∧ Instr.fill (fun i => some (i * z, z)) (pre ++ rest).toArray (ps.map fun p => (p.1, a.eval p.2)) = some (pre ++ fl).toArray
 | [], k, xs, pre, rest, he, _, hr => by
  simp [elemsM] at he; subst he
  have : rest = [] := List.eq_nil_of_length_eq_zero (by simpa using hr)
  subst this
  exact ⟨rfl, [], rfl, by simp [Instr.fill]⟩
 | (i, x) :: r, k, xs, pre, rest, he, hp, hr => by
  simp only [elemsM] at he
  cases hik : Nat.beq i k with
  | false => rw [hik] at he; cases he
  | true =>
   rw [hik] at he
   have hik' := nbeq_t hik
   subst hik'
   simp only [cond_true] at he
   cases h1 : ev st.sg x with
   | none => simp [h1] at he
   | some m =>
    simp only [h1] at he
    cases h2 : cellsM m with
    | none => simp [h2] at he
    | some ds =>
     simp only [h2] at he
     cases h4 : Nat.beq ds.length z with
     | false => rw [h4] at he; cases he
     | true =>
      rw [h4] at he
      simp only [cond_true] at he
      cases h5 : elemsM z st.sg (i + 1) r with
      | none => simp [h5] at he
      | some ys =>
       simp only [h5, Option.some.injEq] at he
       subst he
       obtain ⟨hrd, hac⟩ := cellsM_rep (ev_rep h h1) h2
       have hcz : (a.eval x).cells.toList.length = z := by rw [hrd.1]; exact nbeq_t h4
       simp only [List.length_cons, Nat.add_mul, Nat.one_mul] at hr
       obtain ⟨hl, fl, hF, hfill⟩ := elems_run h z r (i + 1) ys (pre ++ (a.eval x).cells.toList) (rest.drop z) h5 (by simp only [List.length_append, hcz, hp, Nat.add_mul, Nat.one_mul]) (by rw [List.length_drop]; omega)
       refine ⟨by simp [hl], (a.eval x).cells.toList ++ fl, ⟨_, fl, rfl, nbeq_t h4, hac, hrd, hF⟩, ?_⟩
       simp only [List.map_cons, Instr.fill]
       have hsz : (a.eval x).cells.size = z := by rw [← Array.length_toList]; exact hcz
       have hfold : (a.eval x).cells.zipIdx.foldl (fun cs (y : Value × Nat) => cs.setIfInBounds (i * z + y.2) y.1) (pre ++ rest).toArray =
         (pre ++ (a.eval x).cells.toList ++ rest.drop z).toArray := by
        have := fold_lay (i * z) (a.eval x).cells.toList 0 (pre ++ rest).toArray (by rw [hcz]; simp; omega)
        simp only [Nat.add_zero] at this
        rw [← hp, List.take_left' rfl, hcz] at this
        rw [List.drop_append, List.drop_of_length_le (by omega), List.nil_append, Nat.add_sub_cancel_left] at this
        rw [hp] at this
        rw [← this, ← Array.foldl_toList, Array.toList_zipIdx]
       have hfit : ¬ (i * z + z > (pre ++ rest).toArray.size) := by simp; omega
       simp only [hsz, ne_eq, not_true_eq_false, decide_false, Bool.false_or, decide_eq_true_eq]
       rw [if_neg (by simpa using hfit), hfold, hfill]
       simp
theorem indexAt_run {t e : TypeId} {z : Nat} (hu : P.underlying t = some (.slice e)) (hz : szOf P e = some z) {v : Value} {xs : List (List T)} (hv : RepT g.D v (.sl xs))
  {k : IntKind} {n : Int} {cs : List T} (h0 : 0 ≤ n) (hc : xs[n.toNat]? = some cs) (hcz : cs.length = z) (w : World) :
  ∃ u, (Instr.indexAt t v (.int k n)).run P w = .ok u w ∧ RepM g u (.cp cs) := by
 have hlt : n.toNat < xs.length := (List.getElem?_eq_some_iff.1 hc).1
 cases hv with
 | nil => simp at hlt
 | spot a => simp at hlt
 | sl b off m cap y _ cell hm hcap hy hD hr =>
  subst hm
  have hyz : y = z := by rw [← hy _ _ hc, hcz]
  subst hyz
  refine ⟨.pointer (some ⟨b, off + n.toNat * y, none⟩), ?_, .cp b _ cs (cell n.toNat) (fun j hj => ?_) (fun j c hj => hr _ _ _ _ hc hj)⟩
  ·have h1 : 0 ≤ n ∧ n < (xs.length : Int) := ⟨h0, by omega⟩
   simp [Instr.indexAt, asIntOf, run_underlying hu, h1, run_sizeOf hz, addr_add]
  ·have := hD n.toNat j hlt (by rw [← hcz]; exact hj)
   rw [show off + n.toNat * y + j = off + (n.toNat * y + j) from by omega]; exact this
theorem indexB_run {t e : TypeId} {z : Nat} (hu : P.underlying t = some (.slice e)) (hz : szOf P e = some z) {v : Value} {q lo l : Nat} (hv : RepM g v (.sb q z lo l))
  {k : IntKind} {n : Int} (h0 : 0 ≤ n) (h1 : n < (l : Int)) (w : World) : ∃ u, (Instr.indexAt t v (.int k n)).run P w = .ok u w ∧ RepM g u (.pe q (lo + n.toNat) 0) := by
 generalize hl : l = l' at hv
 cases hv with
 | sb b o z c _ lo n' hb hc hn =>
  subst hl
  refine ⟨.pointer (some ⟨b, o + lo * z + n.toNat * z, none⟩), by simp [Instr.indexAt, asIntOf, run_underlying hu, h0, h1, run_sizeOf hz, addr_add], ?_⟩
  have := RepM.pe b o z c q (lo + n.toNat) 0 hb
  rw [show o + ((lo + n.toNat) * z + 0) = o + lo * z + n.toNat * z by rw [Nat.add_mul]; omega] at this
  exact this
 | sbe a q' b o z _ lo hb => exfalso; omega
 | sb0 z c _ hb => exfalso; omega
theorem capM_rep : ∀ {ms ms' : List M} {vs : List Value}, RepL g vs ms → capM ms = some ms' → RepL g vs ms'
 | [], ms', vs, h, hc => by simp [capM] at hc; subst hc; exact h
 | m :: r, ms', vs, h, hc => by
  obtain ⟨v, us, rfl, hv, hr⟩ := h.cons_inv
  simp only [capM] at hc
  split at hc
  ·rename_i rs hrs
   have ih := capM_rep hr hrs
   split at hc
   ·cases hc; exact .cons hv ih
   ·cases hc; exact .cons hv ih
   ·split at hc
    ·rename_i x hx
     cases hc
     exact .cons (.t _ x (closeT_rep hv hx)) ih
    ·cases hc
  ·cases hc
theorem const_hasH {v : Value} {m : M} (h : ofConst v = some m) (k : Nat) : hasH k m = false := by
 unfold ofConst at h
 split at h <;> first | (cases h; done) | (cases h; rfl)
theorem ev_free {d : Nat} (hf : FreeP st d) {x : Operand} {m : M} (he : ev st.sg x = some m) : hasH d m = false := by
 cases x with
 | tmp t => simp [ev] at he; subst he; exact hf.s t
 | const v => exact const_hasH he d
 | func f => simp [ev] at he; subst he; simp [hasH, hasHs]
 | global => simp [ev] at he
theorem cellsM_free {d : Nat} {m : M} {cs : List M} (h : cellsM m = some cs) (hm : hasH d m = false) : hasHs d cs = false := by
 cases m with
 | agg ds =>
  simp only [cellsM] at h
  cases ha : allCell ds with
  | false => simp [ha] at h
  | true => simp [ha] at h; subst h; simpa [hasH] using hm
 | _ => simp [cellsM, isCell] at h <;> (subst h; simp only [hasHs, hm, Bool.or_false])
theorem RepL.turn {g g' : Gh} (hD : g.D.le g'.D) : ∀ {cs : List M} {vs : List Value}, RepL g vs cs → (∀ k, hasHs k cs = true → ∀ b, g.β k = some b → g'.β k = some b) → RepL g' vs cs
 | [], vs, h, _ => by rw [h.nil_inv]; exact .nil _
 | c :: cs, vs, h, hk => by
  obtain ⟨v, r, rfl, hv, hr⟩ := h.cons_inv
  exact .cons (hv.turn hD fun k h => hk k (by simp [hasHs, h])) (RepL.turn hD hr fun k h => hk k (by simp [hasHs, h]))
theorem appM_spec {z : Nat} {x y : M} {id : Option Nat} {xs ys : List (List T)} {u v : Value} (hx : RepM g v x) (hy : RepM g u y) (h : appM z x y = some (id, xs, ys)) :
  RepT g.D v (.sl xs) ∧ RepT g.D u (.sl ys) ∧ ((id = none ∧ ∃ a n, v = .slice a n n) ∨ ∃ j, id = some j ∧ g.β j = some (.a v z)) := by
 unfold appM at h
 split at h
 ·rename_i ys' hys
  split at h
  ·cases h
   obtain ⟨ad, n, rfl, hr⟩ := hx.tight_inv
   exact ⟨hr, slOf_rep hy hys, .inl ⟨rfl, ad, n, rfl⟩⟩
  ·rename_i id' z' xs'
   cases hb : Nat.beq z z' with
   | false => rw [hb] at h; cases h
   | true =>
    rw [hb] at h
    cases h
    have := nbeq_t hb
    subst this
    exact ⟨hx.own_inv.1, slOf_rep hy hys, .inr ⟨_, rfl, hx.own_inv.2⟩⟩
  ·cases h
 ·cases h
theorem ble_rb {k : Nat} (h : Nat.ble RB k = false) : k < RB := by
 rcases Nat.lt_or_ge k RB with h' | h'
 ·exact h'
 ·rw [Nat.ble_eq_true_of_le h'] at h; cases h
mutual
theorem handles_hasH {k : Nat} : ∀ {m : M}, hasH k m = true → k ∈ handles m
 | .any, h => by simp [hasH] at h
 | .t _, h => by simp [hasH] at h
 | .tight _, h => by simp [hasH] at h
 | .cp _, h => by simp [hasH] at h
 | .os _, h => by simp [hasH] at h
 | .oa _ _ _, h => by simp [hasH] at h
 | .op _ _, h => by simp [hasH] at h
 | .om _ _, h => by simp [hasH] at h
 | .own j _ _, h => by simp only [handles, List.mem_singleton]; exact (nbeq_t (show Nat.beq j k = true from h)).symm
 | .ptr j _, h => by simp only [handles, List.mem_singleton]; exact (nbeq_t (show Nat.beq j k = true from h)).symm
 | .pe j _ _, h => by simp only [handles, List.mem_singleton]; exact (nbeq_t (show Nat.beq j k = true from h)).symm
 | .sb j _ _ _, h => by simp only [handles, List.mem_singleton]; exact (nbeq_t (show Nat.beq j k = true from h)).symm
 | .mp j, h => by simp only [handles, List.mem_singleton]; exact (nbeq_t (show Nat.beq j k = true from h)).symm
 | .agg cs, h => handless_hasHs (by simpa [hasH] using h)
 | .clo _ cs, h => handless_hasHs (by simpa [hasH] using h)
 | .tup cs, h => handless_hasHs (by simpa [hasH] using h)
theorem handless_hasHs {k : Nat} : ∀ {cs : List M}, hasHs k cs = true → k ∈ handless cs
 | [], h => by simp [hasHs] at h
 | c :: cs, h => by
  simp only [hasHs, Bool.or_eq_true] at h
  simp only [handless, List.mem_append]
  rcases h with h | h
  ·exact .inl (handles_hasH h)
  ·exact .inr (handless_hasHs h)
end
mutual
theorem hasH_handles {k : Nat} : ∀ {m : M}, k ∈ handles m → hasH k m = true
 | .any, h => by simp [handles] at h
 | .t _, h => by simp [handles] at h
 | .tight _, h => by simp [handles] at h
 | .cp _, h => by simp [handles] at h
 | .os _, h => by simp [handles] at h
 | .oa _ _ _, h => by simp [handles] at h
 | .op _ _, h => by simp [handles] at h
 | .om _ _, h => by simp [handles] at h
 | .own j _ _, h => by simp only [handles, List.mem_singleton] at h; subst h; simp [hasH]
 | .ptr j _, h => by simp only [handles, List.mem_singleton] at h; subst h; simp [hasH]
 | .pe j _ _, h => by simp only [handles, List.mem_singleton] at h; subst h; simp [hasH]
 | .sb j _ _ _, h => by simp only [handles, List.mem_singleton] at h; subst h; simp [hasH]
 | .mp j, h => by simp only [handles, List.mem_singleton] at h; subst h; simp [hasH]
 | .agg cs, h => by simpa [hasH] using hasHs_handless (by simpa [handles] using h)
 | .clo _ cs, h => by simpa [hasH] using hasHs_handless (by simpa [handles] using h)
 | .tup cs, h => by simpa [hasH] using hasHs_handless (by simpa [handles] using h)
theorem hasHs_handless {k : Nat} : ∀ {cs : List M}, k ∈ handless cs → hasHs k cs = true
 | [], h => by simp [handless] at h
 | c :: cs, h => by
  simp only [hasHs, Bool.or_eq_true]
  simp only [handless, List.mem_append] at h
  rcases h with h | h
  ·exact .inl (hasH_handles h)
  ·exact .inr (hasHs_handless h)
end
theorem handlesss_get {k : Nat} : ∀ {xs : List (List M)} {i j : Nat} {cs : List M} {c : M}, xs[i]? = some cs → cs[j]? = some c → hasH k c = true → memN k (handlesss xs) = true
 | [], i, j, cs, c, hi, _, _ => by simp at hi
 | ds :: r, i, j, cs, c, hi, hj, hc => by
  simp only [handlesss]
  cases i with
  | zero => simp at hi; subst hi; exact memN_append_l (memN_of (handless_hasHs (hasHs_of hj hc)))
  | succ i => exact memN_append_r (handlesss_get (by simpa using hi) hj hc)
theorem closeTss_get : ∀ {xs : List (List M)} {ts : List (List T)}, xs.mapM closeTs = some ts → xs.length = ts.length ∧ ∀ (i : Nat) (t : List T), ts[i]? = some t → ∃ cs, xs[i]? = some cs ∧ closeTs cs = some t
 | [], ts, h => by simp at h; subst h; exact ⟨rfl, fun i t h => by simp at h⟩
 | cs :: r, ts, h => by
  simp only [List.mapM_cons, Option.bind_eq_bind, Option.pure_def, Option.bind_eq_some_iff, Option.some.injEq] at h
  obtain ⟨t, ht, rs, hrs, rfl⟩ := h
  obtain ⟨h1, h2⟩ := closeTss_get hrs
  refine ⟨by simp [h1], fun i t' hi => ?_⟩
  cases i with
  | zero => simp at hi; subst hi; exact ⟨cs, rfl, ht⟩
  | succ i => simpa using h2 i t' (by simpa using hi)
theorem RowsL.flat {z : Nat} {xs : List (List M)} {ts : List (List T)} {fl : List Value} (h : RowsL g z xs fl) (hc : xs.mapM closeTs = some ts) : Flat g.D fl ts z := by
 obtain ⟨hl, hg⟩ := closeTss_get hc
 have hlen : ∀ (cs : List M) (t : List T), closeTs cs = some t → cs.length = t.length := by
  intro cs
  induction cs with
  | nil => intro t h; simp [closeTs] at h; subst h; rfl
  | cons c cs ih =>
   intro t h
   simp only [closeTs] at h
   split at h
   ·rename_i x ys _ hys; cases h; simp [ih ys hys]
   ·cases h
 refine ⟨by rw [h.len, hl], fun t ht => ?_, fun i j t x hi hj => ?_⟩
 ·obtain ⟨i, hi⟩ := List.mem_iff_getElem?.1 ht
  obtain ⟨cs, hcs, hct⟩ := hg i t hi
  rw [← hlen cs t hct]; exact h.el i cs hcs
 ·obtain ⟨cs, hcs, hct⟩ := hg i t hi
  have hjc : j < cs.length := by rw [hlen cs t hct]; exact (List.getElem?_eq_some_iff.1 hj).1
  have hil : i < xs.length := (List.getElem?_eq_some_iff.1 hcs).1
  have hlt : i * z + j < fl.length := by
   rw [h.len]
   have : (i + 1) * z ≤ xs.length * z := Nat.mul_le_mul_right z hil
   rw [Nat.add_mul] at this
   rw [h.el i cs hcs] at hjc; omega
  have e := List.getElem?_eq_getElem hlt
  obtain ⟨hr, _⟩ := h.get i j cs _ _ hcs (List.getElem?_eq_getElem hjc) e
  refine ⟨_, e, ?_⟩
  have key : ∀ (cs : List M) (t : List T), closeTs cs = some t → ∀ (j : Nat) (x : T) (c : M), t[j]? = some x → cs[j]? = some c → closeT c = some x := by
   intro cs
   induction cs with
   | nil => intro t _ j x c _ hc; simp at hc
   | cons c' cs ih =>
    intro t ht j x c hx hc
    simp only [closeTs] at ht
    split at ht
    ·rename_i y ys hy hys
     cases ht
     cases j with
     | zero => simp at hx hc; subst hx; subst hc; exact hy
     | succ j => exact ih ys hys j x c (by simpa using hx) (by simpa using hc)
    ·cases ht
  exact closeT_rep hr (key cs t hct j x _ hj (List.getElem?_eq_getElem hjc))
end
end Go.Bm
/- One operation, whatever it is. -/
namespace Go.Bm
open Go.RowKit (Below)
section
variable {P : Program} {D0 : Dm} {w0 : World} {X : Foot} {DF : Env} {g : Gh} {st : St} {a : Act} {w : World}
theorem buildSlice_run (h : FInv DF D0 w0 X g st a w) {t e : TypeId} {n by' len : Nat} {ps : Array (Nat × Operand)} {xs : List (List M)} (he : elemOf P t = some e) (hrow : rowOf P e = some (n, by')) (hxs : elemsM n st.sg 0 ps.toList = some xs)
  (hb : (Nat.beq xs.length len && !Nat.beq (len * n) 0 && Nat.ble (len * n) 16777216) = true) :
  ∃ fl, RowsL g n xs fl ∧ xs.length = len ∧ len * n ≠ 0 ∧ len * n ≤ 16777216 ∧
   (Instr.buildSlice t len (ps.map fun (i, x) => (i, a.eval x))).run P w = .ok (.slice (some ⟨w.heap.size, 0, none⟩) len len) (w.alloc (.cells fl.toArray e)) := by
 obtain ⟨i, zv, hi, hzv, hzs, h0, _, hin, hby⟩ := rowOf_spec hrow
 have hn : szOf P e = some n := by simp [szOf, hi, hin]
 simp only [Bool.and_eq_true, Bool.not_eq_true'] at hb
 obtain ⟨⟨hb1, hb2⟩, hb3⟩ := hb
 have hlen := nbeq_t hb1
 have hne := nbeq_f hb2
 have hle := Nat.le_of_ble_eq_true hb3
 have hu := elemOf_spec he
 have hz : (zeroValue e).run P w = .ok zv w := by simp [zeroValue, typeInfo, hi, hzv]
 have hps : ps.toList.length = xs.length := by
  have : ∀ (qs : List (Nat × Operand)) (k : Nat) (ys : List (List M)), elemsM n st.sg k qs = some ys → qs.length = ys.length := by
   intro qs
   induction qs with
   | nil => intro k ys h1; simp [elemsM] at h1; subst h1; rfl
   | cons q qs ih =>
    intro k ys h1
    obtain ⟨qi, qx⟩ := q
    simp only [elemsM] at h1
    cases e1 : Nat.beq qi k with
    | false => rw [e1] at h1; cases h1
    | true =>
     rw [e1] at h1; simp only [cond_true] at h1
     split at h1
     ·split at h1
      ·rename_i cs' _
       cases e2 : Nat.beq cs'.length n with
       | false => rw [e2] at h1; cases h1
       | true =>
        rw [e2] at h1; simp only [cond_true] at h1
        split at h1
        ·rename_i rest hrest
         cases h1
         simp [ih _ rest hrest]
        ·cases h1
      ·cases h1
     ·cases h1
  exact this _ 0 xs hxs
 obtain ⟨_, fl, hF, hfill⟩ := elems_run h n ps.toList 0 xs [] ((Array.range (len * n)).map (zv.cells[· % zv.cells.size]!)).toList hxs (by simp) (by rw [Array.length_toList, Array.size_map, Array.size_range, hps, hlen])
 simp only [List.nil_append] at hfill
 refine ⟨fl, hF, hlen, hne, hle, ?_⟩
 rw [Array.toArray_toList] at hfill
 have hnot : ¬ (len * n > 2 ^ 24) := by omega
 simp only [Instr.buildSlice, Sem.run_bind, run_underlying hu, Result.andThen_ok, run_sizeOf hn, hnot, if_false, hne, hz]
 simp [newRow]
 rw [hfill]
 simp
theorem RepM.sb_form {v : Value} {k z lo n : Nat} (h : RepM g v (.sb k z lo n)) :
  (∃ b o c, g.β k = some (.s (some (b, o)) z c) ∧ v = .slice (some ⟨b, o + lo * z, none⟩) n (c - lo) ∧ lo + n ≤ c) ∨ (∃ a q b o, g.β k = some (.s (some (b, o)) z lo) ∧ v = .slice (some ⟨a, q, none⟩) 0 0 ∧ n = 0) ∨
  (∃ c, g.β k = some (.s none z c) ∧ v = .slice none 0 0 ∧ lo = 0 ∧ n = 0) := by
 cases h with
 | sb b o z c k lo n hb hc _ => exact .inl ⟨b, o, c, hb, rfl, hc⟩
 | sbe a q b o z k lo hb => exact .inr (.inl ⟨a, q, b, o, hb, rfl, rfl⟩)
 | sb0 z c k hb => exact .inr (.inr ⟨c, hb, rfl, rfl, rfl⟩)
theorem RepM.sb_head {v : Value} {k z lo n : Nat} (h : RepM g v (.sb k z lo n)) : ∃ ad c, g.β k = some (.s ad z c) := by
 rcases h.sb_form with ⟨b, o, c, h, _⟩ | ⟨_, _, b, o, h, _⟩ | ⟨c, h, _⟩ <;> exact ⟨_, _, h⟩
theorem step_sim (h : FInv DF D0 w0 X g st a w) {o : Oper} {os : List O} {r : Res} (hs : step P o st.sg (lookB st.bx) os = some r) (hfree : ∀ k ∈ names r.eff.new, FreeP st k) (hp : ∀ p ∈ r.ps, p)
  (hc : ∀ c ∈ r.cs, CallOk P c.1 c.2.1 c.2.2.1 c.2.2.2.1 c.2.2.2.2) {K : Act → World → Prop} {Q : Exit → Act → World → Prop}
  (hK : r.eff.stop = none → ∀ g' v w', Does w0 X D0 g st.bx w r.eff g' v w' → K (a.put o.dst v) w')
  (hQ : ∀ x, r.eff.stop = some x → ∀ g' v w', Does w0 X D0 g st.bx w r.eff g' v w' → Q (.panic [{ v := x, recovered := false }]) a w') : o.wp P a w K Q := by
 unfold step at hs
 split at hs
 ·rename_i m ps hv
  cases hs
  obtain ⟨v, w', hr, hn, hrep⟩ := vop_sim h hv hp
  exact wp_of_run hr (hK rfl g v w' (Does.plain h hn rfl rfl hrep))
 rename_i hvop
 obtain ⟨dst, op, type, pos, after, guard⟩ := o
 simp only at hs hvop
 cases op <;> (try simp only at hs) <;> try (cases hs; done)
 case load t x =>
  split at hs
  ·rename_i p he
   obtain ⟨u, hu, hr, h1, h2, _, h4, _⟩ := loadB_run h.toLInv (ev_rep h he) hs hp
   exact wp_of_run (v := u) (by simp [execOp, hu]) (hK h4 g u w (Does.plain h (.inl rfl) h1 h2 hr))
  ·cases hs
 case store t p x =>
  split at hs
  ·rename_i mp mx he1 he2
   obtain ⟨w', g', hr, hD, hst, _⟩ := stoB_run h (ev_rep h he1) (ev_rep h he2) hs hp
   refine wp_of_skip (w' := w') ?_ (hK hst g' undef w' hD)
   simp only [execOp, Sem.run_bind, hr, Result.andThen_ok]; rfl
  ·cases hs
 case alloc t =>
  split at hs
  ·rename_i z d hz
   cases hs
   obtain ⟨v, hv, hr⟩ := zeroM_run (P := P) hz w
   have hf := hfree d (by simp [names])
   obtain ⟨g', hD⟩ := Does.mkBox h (e := { val := .ptr d 0, new := [(d, .os z)] }) t rfl rfl rfl rfl (fun g' _ _ => hr g')
   refine wp_of_run (v := .pointer (some ⟨w.heap.size, 0, none⟩)) ?_ (hK rfl g' _ _ hD)
   simp [execOp, Instr.alloc, hv, newVar, newRow]
  ·cases hs
 case box t x =>
  split at hs
  ·rename_i m d he
   split at hs
   ·rename_i cs hcs
    cases hs
    have hf := hfree d (by simp [names])
    obtain ⟨hr, _⟩ := cellsM_rep (ev_rep h he) hcs
    have hnf := cellsM_free hcs (ev_free hf he)
    obtain ⟨g', hD⟩ := Does.mkBox h (e := { val := .ptr d 0, new := [(d, .os cs)] }) t rfl rfl rfl rfl (fun g' hle hβ => hr.turn hle fun k hk b hb => hβ k (fun e => by subst e; rw [hnf] at hk; cases hk) b hb)
    refine wp_of_run (v := .pointer (some ⟨w.heap.size, 0, none⟩)) ?_ (hK rfl g' _ _ hD)
    simp [execOp, Instr.box, newVar, newRow]
   ·cases hs
  ·cases hs
 case buildSlice t len ps =>
  split at hs
  case h_2 => cases hs
  rename_i e d he
  split at hs
  case h_2 => cases hs
  rename_i n by' hrow
  split at hs
  case h_2 => cases hs
  rename_i xs hxs
  cases hb : Nat.beq xs.length len && !Nat.beq (len * n) 0 && Nat.ble (len * n) 16777216 with
  | false => rw [hb] at hs; cases hs
  | true =>
   rw [hb] at hs
   simp only [cond_true] at hs
   obtain ⟨fl, hF, hlen, hne, hle, hrun⟩ := buildSlice_run h he hrow hxs hb
   have hn0 : 0 < n := Nat.pos_of_ne_zero (fun e => by subst e; simp at hne)
   have hshort : xs.length ≤ 274877906944 := by
    have := Nat.le_mul_of_pos_right len hn0
    omega
   have hblk : (w.alloc (.cells fl.toArray e)).heap[w.heap.size]? = some (.cells fl.toArray e (0, 0)) := heap_alloc_new w _
   have hbel := below_alloc w (.cells fl.toArray e)
   have hfin : (execOp a.eval ⟨some d, .buildSlice t len ps, type, pos, after, guard⟩).run P w = .ok (.value (.slice (some ⟨w.heap.size, 0, none⟩) len len)) (w.alloc (.cells fl.toArray e)) := by
    simp only [execOp, Sem.run_bind, hrun, Result.andThen_ok]; rfl
   split at hs
   ·cases hs
    have hf := hfree d (by simp [names])
    have hnd : ∀ q, memN q (handlesss xs) = true → q ≠ d := fun q hq e => by
     subst e
     -- a handle of an element is a handle of a temporary
     have : ∀ (qs : List (Nat × Operand)) (k : Nat) (ys : List (List M)), elemsM n st.sg k qs = some ys → q ∉ handlesss ys := by
      intro qs
      induction qs with
      | nil => intro k ys h1; simp [elemsM] at h1; subst h1; simp [handlesss]
      | cons q' qs ih =>
       intro k ys h1
       obtain ⟨qi, qx⟩ := q'
       simp only [elemsM] at h1
       cases e1 : Nat.beq qi k with
       | false => rw [e1] at h1; cases h1
       | true =>
        rw [e1] at h1; simp only [cond_true] at h1
        split at h1
        ·rename_i m hm
         split at h1
         ·rename_i ds hds
          cases e2 : Nat.beq ds.length n with
          | false => rw [e2] at h1; cases h1
          | true =>
           rw [e2] at h1; simp only [cond_true] at h1
           split at h1
           ·rename_i rest hrest
            cases h1
            simp only [handlesss, List.mem_append]
            rintro (h2 | h2)
            ·have := hasHs_handless h2
             rw [cellsM_free hds (ev_free hf hm)] at this; cases this
            ·exact ih _ _ hrest h2
           ·cases h1
         ·cases h1
        ·cases h1
     exact this _ 0 xs hxs (memN_t hq)
    let F : Foot := fun x => x = w.heap.size
    let g' := g.at d (.s (some (w.heap.size, 0)) n len) F
    have hE : Els (g'.only (handlesss xs)) (w.alloc (.cells fl.toArray e)) n xs fl (fun _ _ _ => False) := by
     refine ⟨hF.len, hF.el, fun i j x h => h.elim, fun i j i' j' x h => h.elim, hF.one, fun i j cs c v hi hj hv => .inr ⟨?_, fun _ h => h⟩⟩
     refine (hF.get i j cs c v hi hj hv).1.turn (g := g) (g' := g'.only (handlesss xs)) (Dm.le_refl g.D) fun k hk b hb => ?_
     have hm := handlesss_get hi hj hk
     show (if memN k (handlesss xs) = true then (if k = d then _ else _) else _) = _
     rw [if_pos hm, if_neg (hnd k hm)]; exact hb
    refine wp_of_run hfin (hK rfl g' _ _ (Does.new h rfl rfl rfl hbel (F := F) (fun x hx => by rw [hx]; exact Nat.le_refl _) (hE.box hblk (fun j => Dm.none_of_ge h.dw (Nat.le_refl _) j) (by rw [List.size_toArray, hF.len, hlen, Nat.zero_add]) (fun u hu => hF.one u (by simpa using hu)) hn0
     ⟨by omega, hshort, by unfold maxLen; have := Nat.le_mul_of_pos_right len hn0; omega⟩ (fun i j x h => h.elim) (fun q u hq => by rw [Nat.zero_add, List.getElem?_toArray]; exact hq) (fun x => ?_)) ?_))
    ·constructor
     ·exact fun h => .inl h
     ·rintro (h | ⟨_, _, h⟩)
      ·exact h
      ·exact h.elim
    ·have := RepM.sb (g := g') w.heap.size 0 n len d 0 len (by show (if d = d then _ else _) = _; rw [if_pos rfl]) (by omega) (by omega)
     simpa using this
   ·split at hs
    case h_2 => cases hs
    rename_i ts hts
    cases hs
    have hFl := hF.flat hts
    have hD' : g.D.le (g.D.add w.heap.size fl) := Dm.add_le fl (Dm.none_of_ge h.dw (Nat.le_refl _))
    have htl : ts.length = len := by rw [← (closeTss_get hts).1]; exact hlen
    have hrep : RepT (g.D.add w.heap.size fl) (.slice (some ⟨w.heap.size, 0, none⟩) ts.length len) (.sl ts) :=
     RepT.of_flat (hFl.mono hD') (by omega) (by omega) (fun q u hq => by rw [Nat.zero_add]; unfold Dm.add; rw [if_pos rfl]; exact hq)
    rw [htl] at hrep
    refine wp_of_run hfin (hK rfl ⟨g.D.add w.heap.size fl, g.β, g.φ⟩ _ _ ?_)
    refine ⟨hD', fun q j u hq => ?_, fun _ _ => rfl, .tight _ _ ts hrep (fun _ h => by cases h; rfl), fun k o hk => by rcases hk with hk | ⟨_, hk⟩ <;> simp [lookB] at hk, fun k o hk _ _ _ => ⟨rfl, fun x hx => ⟨hbel.block x (h.lt hk x hx), fun j => ?_⟩⟩, fun k b hk => by simp [names] at hk, fun k k' b hk => by simp [names] at hk, fun q j u hq => ?_, h.below.next hbel⟩
    ·have hq' : (if q = w.heap.size then fl[j]? else g.D q j) = some u := hq
     split at hq'
     ·rename_i e1
      subst e1
      rw [cell_of_heap hblk, List.getElem?_toArray]; exact hq'
     ·exact Dm.inW_below h.dw hbel q j u hq'
    ·have := h.lt hk x hx
     show (if x = w.heap.size then fl[j]? else g.D x j) = _; rw [if_neg (by omega)]
    ·have hq' : (if q = w.heap.size then fl[j]? else g.D q j) = some u := hq
     split at hq'
     ·rename_i e1; exact .inr (.inl (by rw [e1]; exact h.below.size))
     ·exact h.dnew q j u hq'
 case indexAddr t x i =>
  split at hs
  case h_2 => cases hs
  rename_i e m k n he hx hi
  have hn := (ev_rep h hi).s_inv
  split at hs
  ·rename_i q z lo l
   cases hz : szEq P e z with
   | false => rw [hz] at hs; cases hs
   | true =>
    rw [hz] at hs
    simp only [cond_true, Option.some.injEq] at hs
    subst hs
    have hsz : szOf P e = some z := by
     unfold szEq at hz
     split at hz
     ·rename_i z' hz'; rw [hz', nbeq_t hz]
     ·cases hz
    obtain ⟨u, hu, hr⟩ := indexB_run (k := k) (elemOf_spec he) hsz (ev_rep h hx) (hp (0 ≤ n) (by simp)) (hp (n < (l : Int)) (by simp)) w
    refine wp_of_run (v := u) ?_ (hK rfl g u w (Does.plain h (.inl rfl) rfl rfl hr))
    simp only [execOp, hn, Sem.run_bind, hu, Result.andThen_ok]; rfl
  ·split at hs
   case h_2 => cases hs
   rename_i xs z cs os' hxs hz
   cases hb : Nat.beq cs.length z with
   | false => rw [hb] at hs; cases hs
   | true =>
    rw [hb] at hs
    simp only [cond_true, Option.some.injEq] at hs
    subst hs
    obtain ⟨u, hu, hr⟩ := indexAt_run (k := k) (elemOf_spec he) hz (slOf_rep (ev_rep h hx) hxs) (hp (0 ≤ n) (by simp)) (hp (xs[n.toNat]? = some cs) (by simp)) (nbeq_t hb) w
    refine wp_of_run (v := u) ?_ (hK rfl g u w (Does.plain h (.inl rfl) rfl rfl hr))
    simp only [execOp, hn, Sem.run_bind, hu, Result.andThen_ok]; rfl
 case makeFunc fn fs caps =>
  cases fn with
  | func f =>
   simp only at hs
   split at hs
   case h_2 => cases hs
   rename_i ms hfs hms
   split at hs
   case h_2 => cases hs
   rename_i ms' hcap
   cases hs
   have hr := capM_rep (evs_rep h hms) hcap
   have hf0 : fs = #[] := by rw [← Array.toArray_toList (xs := fs), hfs]
   refine wp_of_run (v := .func (.func f) #[] (caps.toList.map a.eval).toArray) ?_ (hK rfl g _ w (Does.plain h (.inl rfl) rfl rfl (.clo f _ ms' hr.1 hr.2)))
   have e1 : caps.map a.eval = (caps.toList.map a.eval).toArray := by apply Array.ext'; simp
   simp [execOp, Instr.makeFunc, hf0, e1]
  | _ => cases hs
 case panic x =>
  split at hs
  case h_2 => cases hs
  rename_i m he
  split at hs
  case h_2 => cases hs
  rename_i t v hv
  cases hs
  have hx := valM_rep (ev_rep h he) hv
  have := hQ (.iface t v) rfl g undef w (Does.plain h (.inl rfl) rfl rfl (.tup [] [] rfl (fun j v c h => by simp at h)))
  unfold Oper.wp
  simp only [execOp, hx, Instr.panic]
  simpa [goPanic, Oper.upon] using this
 case call c =>
  split at hs
  ·rename_i x y t u hcal hargs htypes
   split at hs
   case h_2 => cases hs
   rename_i d
   unfold appB at hs
   split at hs
   case h_2 => cases hs
   rename_i e ma mb he hx hy
   split at hs
   case h_2 => cases hs
   rename_i z by' hrow
   obtain ⟨i, zv, hi, hzv, hzs, h0, hz1, hin, hby⟩ := rowOf_spec hrow
   subst hin hby
   cases htu : Nat.beq t u with
   | false => rw [htu] at hs; cases hs
   | true =>
    rw [htu] at hs
    simp only [cond_true] at hs
    have htu := nbeq_t htu
    subst htu
    have hu := elemOf_spec he
    have hfin : ∀ {v' : Value} {w' : World}, (Builtin.append_ #[t, t] type #[a.eval x, a.eval y]).run P w = .ok v' w' → (execOp a.eval ⟨some d, .call c, type, pos, after, guard⟩).run P w = .ok (.value v') w' := by
     intro v' w' hr
     have ha := args2 hargs
     have hty := types2 htypes
     simp [execOp, resolve, hcal, ha, hty, invoke, builtin, hr]
    split at hs
    ·rename_i k z' lo n
     cases hrb : Nat.ble RB k with
     | true => rw [hrb] at hs; cases hs
     | false =>
      rw [hrb] at hs
      simp only [cond_false] at hs
      have hkr := ble_rb hrb
      split at hs
      case h_2 => cases hs
      rename_i hs0 zz xs hk
      cases hlz : Nat.beq lo 0 && Nat.beq i.size z' with
      | false => rw [hlz] at hs; cases hs
      | true =>
       rw [hlz] at hs
       simp only [Bool.and_eq_true] at hlz
       have hlo := nbeq_t hlz.1
       have hzz := nbeq_t hlz.2
       subst hlo hzz
       simp only [cond_true] at hs
       have hv := ev_rep h hx
       obtain ⟨hd, hβ, hok⟩ := h.bx k _ hk
       have hzz : zz = i.size := by
        obtain ⟨ad, c, hb⟩ := hv.sb_head
        rw [hβ] at hb
        cases hb
        cases hok <;> rfl
       subst hzz
       split at hs
       ·rename_i j z'' lo' m
        split at hs
        case h_2 => cases hs
        rename_i hs1 zz ys hj
        cases hl2 : Nat.beq lo' 0 && Nat.beq i.size z'' && !Nat.beq j k && Nat.blt j RB with
        | false => rw [hl2] at hs; cases hs
        | true =>
         rw [hl2] at hs
         simp only [Bool.and_eq_true, Bool.not_eq_true'] at hl2
         obtain ⟨⟨⟨e1, e2⟩, e3⟩, e4⟩ := hl2
         have e1 := nbeq_t e1
         have e2 := nbeq_t e2
         subst e1 e2
         have hjk := nbeq_f e3
         have hjr : j < RB := Nat.le_of_ble_eq_true e4
         simp only [cond_true, Option.some.injEq] at hs
         subst hs
         have hw := ev_rep h hy
         obtain ⟨hdj, hβj, hokj⟩ := h.bx j _ hj
         have hzj : zz = i.size := by
          obtain ⟨ad, c, hb⟩ := hw.sb_head
          rw [hβj] at hb
          cases hb
          cases hokj <;> rfl
         subst hzj
         have p1 : n = xs.length := hp _ (by simp)
         have p2 : m = ys.length := hp (m = ys.length) (by simp)
         have p3 : (n + m) * i.bytes ≤ 140737488355328 := hp ((n + m) * i.bytes ≤ 140737488355328) (by simp)
         have p4 : n + m ≤ 274877906944 := hp (n + m ≤ 274877906944) (by simp)
         have hf := hfree d (by simp [names])
         have hnd : ∀ q, memN q (hs0 ++ hs1) = true → q ≠ d := fun q hq e => by
          subst e
          rcases List.mem_append.1 (memN_t hq) with hm | hm
          ·have := hf.x k _ hk
           simp only [boxH] at this
           rw [memN_of hm] at this; cases this
          ·have := hf.x j _ hj
           simp only [boxH] at this
           rw [memN_of hm] at this; cases this
         -- the other slice's cells
         obtain ⟨ub, ku, gl, B, hue, hub, hEu, hnews, hBf⟩ : ∃ ub ku gl B, a.eval y = .slice (sladdr ub) m ku ∧ (ub = none → m = 0) ∧ Els (g.only hs1) w i.size ys gl B ∧
           (∀ b o, ub = some (b, o) → ∀ j q, gl[j]? = some q → w.cell? ⟨b, o + j, none⟩ = some q) ∧ ∀ i' j' x, B i' j' x → g.φ j x := by
          rcases hokj.els with ⟨c0, hx0, rfl, hF⟩ | ⟨a0, q0, hx0, rfl, hF⟩ | ⟨b, o, c, cur, cty, vs, A, rfl, hE, hh, hDb, hcs, h1c, _, hcc, hAb, hcur, hF⟩
          ·subst hx0
           have hm0 : m = 0 := by simpa using p2
           subst hm0
           have : a.eval y = .slice none 0 0 := by
            rcases hw.sb_form with ⟨b, o, c, hb, _⟩ | ⟨_, _, b, o, hb, _⟩ | ⟨c, hb, he, _⟩
            ·rw [hβj] at hb; cases hb
            ·rw [hβj] at hb; cases hb
            ·exact he
           exact ⟨none, 0, [], fun _ _ _ => False, by rw [this]; rfl, (fun _ => rfl), Els.nil _ _ _, (fun b o h => by cases h), fun _ _ _ h => h.elim⟩
          ·subst hx0
           have hm0 : m = 0 := by simpa using p2
           subst hm0
           obtain ⟨a1, q1, he⟩ : ∃ a1 q1, a.eval y = .slice (sladdr (some (a1, q1))) 0 0 := by
            rcases hw.sb_form with ⟨b, o, c, hb, he, _⟩ | ⟨a', q, b, o, hb, he, _⟩ | ⟨c, hb, he, _⟩
            ·rw [hβj] at hb; cases hb; exact ⟨a0, q0 + 0 * i.size, by rw [he]; simp [sladdr]⟩
            ·exact ⟨a', q, by rw [he]; simp [sladdr]⟩
            ·rw [hβj] at hb; cases hb
           exact ⟨some (a1, q1), 0, [], fun _ _ _ => False, he, (fun _ => rfl), Els.nil _ _ _, (fun b o _ j q hq => by simp at hq), fun _ _ _ h => h.elim⟩
          ·rcases hw.sb_form with ⟨b', o', c', hb, he, _⟩ | ⟨a', q, b', o', hb, he, hm0⟩ | ⟨c', hb, _⟩
           ·rw [hβj] at hb; cases hb
            exact ⟨some (b, o), c - 0, vs, A, by rw [he]; simp [sladdr], (fun h => by cases h), hE, (fun b2 o2 h2 q u hq => by cases h2; rw [cell_of_heap hh]; exact hcur q u hq), fun i' j' x hx => (hF x).2 (.inr ⟨i', j', hx⟩)⟩
           ·rw [hβj] at hb; cases hb
            have hy0 : ys = [] := List.eq_nil_of_length_eq_zero (by omega)
            subst hy0
            have hvs : vs = [] := List.eq_nil_of_length_eq_zero (by rw [hE.len]; simp)
            exact ⟨some (a', q), 0, vs, A, by rw [he, hm0]; simp [sladdr], (fun _ => hm0), hE, (fun b2 o2 _ q u hq => by rw [hvs] at hq; simp at hq), fun i' j' x hx => (hF x).2 (.inr ⟨i', j', hx⟩)⟩
           ·rw [hβj] at hb; cases hb
         have hEu' : Els (g.only (hs0 ++ hs1)) w i.size ys gl B := hEu.keep (g := g.only hs1) (g' := g.only (hs0 ++ hs1)) (Dm.le_refl g.D) (only_mono g fun q hq => memN_append_r hq) (fun _ _ => keep_refl _ _ _)
         obtain ⟨v', w', g', hr, hD⟩ := Does.appB h t type e hu hi hzv hzs h0 hz1 (ef := { val := .sb d i.size 0 (n + m), new := [(d, .oa (hs0 ++ hs1) i.size (xs ++ ys))], del := [k, j], touch := [k, j] }) rfl rfl rfl hk hkr (by simp) p1 p2 hnd hv
          (fun q hq => memN_append_l hq) hue (fun e => hub (by cases ub <;> first | rfl | cases e)) hEu' (fun ad e j q hq => by
           cases ub with
           | none => cases e
           | some p => cases e; rw [addr_add]; exact hnews p.1 p.2 rfl j q hq) (fun i' j' x hx => ⟨j, _, hj, by simp, hjr, hjk, hBf i' j' x hx⟩) p3 p4
         exact wp_of_run (hfin hr) (hK rfl g' v' w' hD)
       ·split at hs
        case h_2 => cases hs
        rename_i ys hys
        cases hs
        have p1 : n = xs.length := hp _ (by simp)
        have p3 : (n + ys.length) * i.bytes ≤ 140737488355328 := hp ((n + ys.length) * i.bytes ≤ 140737488355328) (by simp)
        have p4 : n + ys.length ≤ 274877906944 := hp (n + ys.length ≤ 274877906944) (by simp)
        have p5 : ∀ y, y ∈ ys → y.length = i.size := hp (∀ y, y ∈ ys → y.length = i.size) (by simp)
        have hf := hfree d (by simp [names])
        have hnd : ∀ q, memN q hs0 = true → q ≠ d := fun q hq e => by
         subst e
         have := hf.x k _ hk
         simp only [boxH] at this
         rw [hq] at this; cases this
        obtain ⟨ub, ku, gl, hue, _, hub, _, hFl, hDu⟩ := (slOf_rep (ev_rep h hy) hys).flat' p5 h0
        obtain ⟨v', w', g', hr, hD⟩ := Does.appB h t type e hu hi hzv hzs h0 hz1 (ef := { val := .sb d i.size 0 (n + ys.length), new := [(d, .oa hs0 i.size (xs ++ rowsT ys))], del := [k], touch := [k] }) rfl rfl rfl hk hkr (by simp) p1 (by simp [rowsT]) hnd hv
         (fun q hq => hq) hue (fun e => by have := hub e; omega) (Flat.els (g := g.only hs0) hFl) (fun ad hb j q hq => by rw [cell_add (hDu ad hb j q hq).2]; exact h.dw _ _ _ (hDu ad hb j q hq).1) (fun _ _ _ h => h.elim) p3 p4
        exact wp_of_run (hfin hr) (hK rfl g' v' w' hD)
    ·split at hs
     case h_2 => cases hs
     rename_i id xs ys happ
     obtain ⟨r1, r2, r3⟩ := appM_spec (ev_rep h hx) (ev_rep h hy) happ
     cases id with
     | none =>
      simp only at hs
      cases hs
      obtain ⟨v', w', g', hr, hD⟩ := Does.app h t type e hu hi hzv hzs h0 hz1 (ef := { val := .own d i.size (xs ++ ys), new := [(d, .op i.size (xs ++ ys))] }) rfl rfl rfl r1 (by
       rcases r3 with ⟨_, h3⟩ | ⟨_, h3, _⟩
       ·exact .inl h3
       ·cases h3) r2 (hp ((xs.length + ys.length) * i.bytes ≤ 140737488355328) (by simp)) (hp (xs.length + ys.length ≤ 274877906944) (by simp)) (hp (∀ x, x ∈ xs → x.length = i.size) (by simp)) (hp (∀ x, x ∈ ys → x.length = i.size) (by simp))
      exact wp_of_run (hfin hr) (hK rfl g' v' w' hD)
     | some k =>
      simp only at hs
      cases hrb : Nat.ble RB k with
      | true => rw [hrb] at hs; cases hs
      | false =>
       rw [hrb] at hs
       simp only [cond_false] at hs
       split at hs
       case h_2 => cases hs
       rename_i z2 xs2 hk
       cases hs
       obtain ⟨hd, hβ, hok⟩ := h.bx k _ hk
       have how : OwP g.D w (a.eval x) i.size (g.φ k) := by
        rcases r3 with ⟨h3, _⟩ | ⟨j, h3, h4⟩
        ·cases h3
        ·cases h3
         rw [hβ] at h4
         cases h4
         generalize g.φ k = F at hok
         cases hok with
         | op v z xs F h ho => exact ho
       obtain ⟨v', w', g', hr, hD⟩ := Does.app h t type e hu hi hzv hzs h0 hz1 (ef := { val := .own d i.size (xs ++ ys), new := [(d, .op i.size (xs ++ ys))], del := [k], touch := [k] }) rfl rfl rfl r1
        (.inr ⟨k, _, by simp, ble_rb hrb, hk, how⟩) r2 (hp ((xs.length + ys.length) * i.bytes ≤ 140737488355328) (by simp)) (hp (xs.length + ys.length ≤ 274877906944) (by simp)) (hp (∀ x, x ∈ xs → x.length = i.size) (by simp)) (hp (∀ x, x ∈ ys → x.length = i.size) (by simp))
       exact wp_of_run (hfin hr) (hK rfl g' v' w' hD)
  ·exact callA_sim h rfl hs hp hc hfree hK hQ
end
end Go.Bm
/- One operation where all that it looks at is the same; the operations of a region. -/
namespace Go.Bm
open Go.RowKit (Below)
def tmpsOf : List Operand → List Nat
 | [] => []
 | .tmp t :: r => t :: tmpsOf r
 | _ :: r => tmpsOf r
def reads (ops : List Oper) (o : Oper) : List Nat :=
 tmpsOf o.op.operands.toList ++ (match o.guard with
  | some (j, _) => match ops[j]? with
   | some g => match g.dst with
    | some d => [d]
    | none => []
   | none => []
  | none => [])
section
variable {P : Program}
theorem ev_congr {sg sg' : List (Nat × M)} : ∀ {x : Operand}, (∀ t ∈ tmpsOf [x], look sg t = look sg' t) → ev sg x = ev sg' x
 | .tmp t, h => by simp only [ev]; rw [h t (by simp [tmpsOf])]
 | .const _, _ => rfl
 | .func _, _ => rfl
 | .global _, _ => rfl
theorem tmpsOf_append : ∀ (xs ys : List Operand), tmpsOf (xs ++ ys) = tmpsOf xs ++ tmpsOf ys
 | [], _ => rfl
 | .tmp t :: r, ys => by simp [tmpsOf, tmpsOf_append r ys]
 | .const _ :: r, ys => by simp [tmpsOf, tmpsOf_append r ys]
 | .func _ :: r, ys => by simp [tmpsOf, tmpsOf_append r ys]
 | .global _ :: r, ys => by simp [tmpsOf, tmpsOf_append r ys]
theorem tmpsOf_mem : ∀ {xs : List Operand} {x : Operand} {t : Nat}, x ∈ xs → t ∈ tmpsOf [x] → t ∈ tmpsOf xs := by
 intro xs x t hx ht
 induction xs with
 | nil => cases hx
 | cons y r ih =>
  have e : tmpsOf (y :: r) = tmpsOf [y] ++ tmpsOf r := tmpsOf_append [y] r
  rw [e]
  rcases List.mem_cons.1 hx with rfl | h
  ·exact List.mem_append_left _ ht
  ·exact List.mem_append_right _ (ih h)
theorem evs_congr {sg sg' : List (Nat × M)} : ∀ {xs : List Operand}, (∀ x ∈ xs, ev sg x = ev sg' x) → evs sg xs = evs sg' xs
 | [], _ => rfl
 | x :: r, h => by
  simp only [evs]
  rw [h x (by simp), evs_congr (xs := r) (fun y hy => h y (by simp [hy]))]
theorem fillM_congr {pl : List (Nat × Nat)} {sg sg' : List (Nat × M)} : ∀ {ps : List (Nat × Operand)} {cs : List M}, (∀ p ∈ ps, ev sg p.2 = ev sg' p.2) → fillM pl sg ps cs = fillM pl sg' ps cs
 | [], _, _ => rfl
 | (i, x) :: r, cs, h => by
  simp only [fillM]
  rw [h (i, x) (by simp)]
  have ih : ∀ cs, fillM pl sg r cs = fillM pl sg' r cs := fun cs => fillM_congr (fun p hp => h p (by simp [hp]))
  simp only [ih]
theorem optEv_congr {sg sg' : List (Nat × M)} {x : Option Operand} (h : ∀ y, x = some y → ev sg y = ev sg' y) : optEv sg x = optEv sg' x := by
 cases x with
 | none => rfl
 | some y => simp only [optEv]; rw [h y rfl]
theorem elemsM_congr {z : Nat} {sg sg' : List (Nat × M)} : ∀ {ps : List (Nat × Operand)} {k : Nat}, (∀ p ∈ ps, ev sg p.2 = ev sg' p.2) → elemsM z sg k ps = elemsM z sg' k ps
 | [], _, _ => rfl
 | (i, x) :: r, k, h => by
  simp only [elemsM]
  rw [h (i, x) (by simp)]
  have ih : elemsM z sg (k + 1) r = elemsM z sg' (k + 1) r := elemsM_congr (fun p hp => h p (by simp [hp]))
  simp only [ih]
theorem vop_some {sg sg' : List (Nat × M)} {op : Op} {y : M × List Prop} (he : ∀ x ∈ op.operands.toList, ev sg x = ev sg' x) (h : vop P sg op = some y) : vop P sg' op = some y := by
 cases op <;> simp only [vop] at h ⊢ <;> try (cases h; done)
 case move x => rw [← he x (by simp [Op.operands])]; exact h
 case assign x => rw [← he x (by simp [Op.operands])]; exact h
 case pick c x z => rw [← he c (by simp [Op.operands]), ← he x (by simp [Op.operands]), ← he z (by simp [Op.operands])]; exact h
 case build t ps =>
  split at h
  ·rename_i z pl hz hpl
   rw [← fillM_congr (fun p hp => he p.2 (by simp [Op.operands]; exact ⟨p.1, by simpa using hp⟩))]
   exact h
  ·cases h
 case load t x => rw [← he x (by simp [Op.operands])]; exact h
 case makeInterface t x => rw [← he x (by simp [Op.operands])]; exact h
 case nilCheck x => rw [← he x (by simp [Op.operands])]; exact h
 case binOp op t x z yt => rw [← he x (by simp [Op.operands]), ← he z (by simp [Op.operands])]; exact h
 case unOp op t x => rw [← he x (by simp [Op.operands])]; exact h
 case convert s d x => rw [← he x (by simp [Op.operands])]; exact h
 case slice t x lo hi mx =>
  rw [← he x (by simp [Op.operands]), ← optEv_congr (x := lo) (fun z hz => he z (by subst hz; simp [Op.operands])),
   ← optEv_congr (x := hi) (fun z hz => he z (by subst hz; simp [Op.operands])), ← optEv_congr (x := mx) (fun z hz => he z (by subst hz; simp [Op.operands]))]
  exact h
 case fieldAddr t x i => rw [← he x (by simp [Op.operands])]; exact h
 case field t x i => rw [← he x (by simp [Op.operands])]; exact h
 case index t x i => rw [← he x (by simp [Op.operands]), ← he i (by simp [Op.operands])]; exact h
 case extract x i => rw [← he x (by simp [Op.operands])]; exact h
 case call c =>
  split at h
  ·rename_i x t hc hx ht
   have : x ∈ c.args.toList := by rw [hx]; simp
   rw [← he x (by simp only [Op.operands, Call.operands, Array.toList_append]; exact List.mem_append_right _ this)]
   exact h
  ·cases h
theorem vop_congr {sg sg' : List (Nat × M)} {op : Op} (he : ∀ x ∈ op.operands.toList, ev sg x = ev sg' x) : vop P sg op = vop P sg' op := by
 cases h : vop P sg op with
 | some y => exact (vop_some he h).symm
 | none =>
  cases h' : vop P sg' op with
  | none => rfl
  | some y => rw [vop_some (fun x hx => (he x hx).symm) h'] at h; cases h
theorem loadB_congr {bx bx' : Nat → Option M} {t : TypeId} {p : M} {os : List O} {r : Res} (h : loadB P bx t p os = some r) (hb : ∀ k ∈ r.eff.touch, bx k = bx' k) : loadB P bx' t p os = some r := by
 unfold loadB at h ⊢
 split at h
 ·rename_i k off n hn
  split at h
  ·rename_i cs hk
   split at h
   ·rename_i ds hc
    cases ha : allCell ds with
    | false => rw [ha] at h; cases h
    | true =>
     rw [ha] at h
     simp only [cond_true] at h
     split at h
     ·rename_i m hm
      cases h
      have := hb k (by simp)
      simp only [hn, ← this, hk, hc, ha, cond_true, hm]
     ·cases h
   ·cases h
  ·cases h
 ·rename_i k i off n hn
  split at h
  ·rename_i hs z xs cs os' hk
   split at h
   ·rename_i ds hc
    cases ha : allCell ds with
    | false => rw [ha] at h; cases h
    | true =>
     rw [ha] at h
     simp only [cond_true] at h
     split at h
     ·rename_i m hm
      cases h
      have := hb k (by simp)
      simp only [hn, ← this, hk, hc, ha, cond_true, hm]
     ·cases h
   ·cases h
  ·cases h
 ·cases h
theorem stoB_congr {bx bx' : Nat → Option M} {t : TypeId} {p x : M} {os : List O} {r : Res} (h : stoB P bx t p x os = some r) (hb : ∀ k ∈ r.eff.touch, bx k = bx' k) : stoB P bx' t p x os = some r := by
 unfold stoB at h ⊢
 split at h
 case h_2 => cases h
 rename_i ds n hc hn
 cases h1 : Nat.beq ds.length n with
 | false => rw [h1] at h; cases h
 | true =>
  simp only [h1, cond_true, hc, hn] at h ⊢
  split at h
  ·rename_i k off
   cases h2 : Nat.ble RB k with
   | true => rw [h2] at h; cases h
   | false =>
    simp only [h2, cond_false] at h ⊢
    split at h
    ·rename_i cs hk
     split at h
     ·rename_i cs' hl
      cases h
      have := hb k (by simp)
      simp only [← this, hk, hl]
     ·cases h
    ·cases h
  ·rename_i k i off
   cases h2 : Nat.ble RB k with
   | true => rw [h2] at h; cases h
   | false =>
    simp only [h2, cond_false] at h ⊢
    split at h
    ·rename_i hs z xs cs os' hk
     cases h3 : allHs hs ds with
     | false => rw [h3] at h; cases h
     | true =>
      simp only [h3, cond_true] at h
      split at h
      ·rename_i cs' hl
       cases h
       have := hb k (by simp)
       simp only [← this, hk, h3, cond_true, hl]
      ·cases h
    ·cases h
  ·cases h
theorem mapBs_congr {f : Nat → Option Nat} {bx bx' : Nat → Option M} : ∀ {L : List Nat}, (∀ k ∈ L, bx k = bx' k) → mapBs f bx L = mapBs f bx' L
 | [], _ => rfl
 | k :: r, h => by
  simp only [mapBs]
  rw [h k (by simp), mapBs_congr (L := r) fun q hq => h q (by simp [hq])]
theorem callF_congr {sg sg' : List (Nat × M)} {bx bx' : Nat → Option M} {c : Call} {os : List O} {r : Res} (he : ∀ x ∈ c.operands.toList, ev sg x = ev sg' x) (h : callF sg bx c os = some r) (hb : ∀ k ∈ r.eff.touch, bx k = bx' k) : callF sg' bx' c os = some r := by
 have hcal : callee sg c = callee sg' c := by
  unfold callee
  cases hc : c.callee with
  | value x =>
   simp only
   rw [he x (by simp [Call.operands, hc]), evs_congr (fun y hy => he y (by simp only [Call.operands, hc, Array.toList_append]; exact List.mem_append_right _ hy))]
  | _ => rfl
 unfold callF at h ⊢
 rw [← hcal]
 split at h
 case h_2 => cases h
 rename_i f ms oc L bs base os' hc
 cases h1 : distinct L && Nat.beq L.length bs.length && allRw L bs && Nat.ble L.length 1000 with
 | false => rw [h1] at h; cases h
 | true =>
  simp only [hc, h1, cond_true] at h ⊢
  split at h
  case h_2 => cases h
  rename_i as ls has hls
  split at h
  case h_2 => cases h
  rename_i put del hback
  have fin : (∀ k ∈ L, bx k = bx' k) → mapBs (nameIn bs L) bx' L = some ls := fun hk => by rw [← mapBs_congr hk, hls]
  cases oc with
  | ret r0 =>
   simp only at h ⊢
   split at h
   case h_2 => cases h
   rename_i r' hr'
   cases had : adopt base r' with
   | mk m new =>
    rw [had] at h
    simp only [Option.some.injEq] at h
    subst h
    rw [has, fin hb]
  | pan x =>
   simp only [Option.some.injEq] at h ⊢
   subst h
   rw [has, fin hb]
theorem callA_congr {sg sg' : List (Nat × M)} {bx bx' : Nat → Option M} {c : Call} {os : List O} {r : Res} (he : ∀ x ∈ c.operands.toList, ev sg x = ev sg' x) (h : callA sg bx c os = some r) (hb : ∀ k ∈ r.eff.touch, bx k = bx' k) : callA sg' bx' c os = some r := by
 unfold callA at h ⊢
 split at h
 ·rename_i oc L as os'
  have hcal : callee sg c = callee sg' c := by
   unfold callee
   cases hc : c.callee with
   | value x =>
    simp only
    rw [he x (by simp [Call.operands, hc]), evs_congr (fun y hy => he y (by simp only [Call.operands, hc, Array.toList_append]; exact List.mem_append_right _ hy))]
   | _ => rfl
  have hre : (∀ k ∈ L, bx k = bx' k) → rstr bx L = rstr bx' L := fun hk => by
   funext k
   unfold rstr
   cases e : memN k L with
   | false => rfl
   | true => exact hk k (memN_t e)
  unfold callB at h ⊢
  rw [← hcal]
  split at h
  case h_2 => cases h
  cases oc with
  | ret r0 =>
   simp only at h ⊢
   cases hn : noMem r0 with
   | false => rw [hn] at h; cases h
   | true =>
    rw [hn] at h
    simp only [cond_true, Option.some.injEq] at h ⊢
    subst h
    rw [← hre hb]
  | pan x =>
   simp only [Option.some.injEq] at h ⊢
   subst h
   rw [← hre hb]
 ·rename_i hne
  have := callF_congr he h hb
  cases os with
  | nil => exact this
  | cons y r =>
   cases y with
   | bor oc L as => exact (hne _ _ _ _ rfl).elim
   | _ => exact this
theorem appB_congr {sg sg' : List (Nat × M)} {bx bx' : Nat → Option M} {d : Nat} {t u : TypeId} {x y : Operand} {os : List O} {r : Res} (hx : ev sg x = ev sg' x) (hy : ev sg y = ev sg' y)
  (h : appB P sg bx d t u x y os = some r) (hb : ∀ k ∈ r.eff.touch, bx k = bx' k) : appB P sg' bx' d t u x y os = some r := by
 unfold appB at h ⊢
 rw [← hx, ← hy]
 split at h
 case h_2 => cases h
 rename_i e ma mb he hxa hyb
 split at h
 case h_2 => cases h
 rename_i z by' hrow
 cases h1 : Nat.beq t u with
 | false => rw [h1] at h; cases h
 | true =>
  simp only [he, hxa, hyb, hrow, h1, cond_true] at h ⊢
  split at h
  ·rename_i k z' lo n
   cases h2 : Nat.ble RB k with
   | true => rw [h2] at h; cases h
   | false =>
    simp only [h2, cond_false] at h ⊢
    split at h
    case h_2 => cases h
    rename_i hs0 zz xs hk
    cases h3 : Nat.beq lo 0 && Nat.beq z z' with
    | false => rw [h3] at h; cases h
    | true =>
     simp only [h3, cond_true] at h ⊢
     split at h
     ·rename_i j z'' lo' m
      split at h
      case h_2 => cases h
      rename_i hs1 zz1 ys hj
      cases h4 : Nat.beq lo' 0 && Nat.beq z z'' && !Nat.beq j k && Nat.blt j RB with
      | false => rw [h4] at h; cases h
      | true =>
       simp only [h4, cond_true, Option.some.injEq] at h
       subst h
       have e1 := hb k (by simp)
       have e2 := hb j (by simp)
       simp only [← e1, hk, ← e2, hj, h3, h4, cond_true]
     ·split at h
      case h_2 => cases h
      rename_i ys hys
      cases h
      have e1 := hb k (by simp)
      simp only [← e1, hk, h3, cond_true]
  ·split at h
   case h_2 => cases h
   rename_i hno id xs ys happ
   cases id with
   | none => simp only at h; cases h; simp only [happ]
   | some k =>
    simp only at h
    cases h2 : Nat.ble RB k with
    | true => rw [h2] at h; cases h
    | false =>
     simp only [h2, cond_false] at h
     split at h
     case h_2 => cases h
     rename_i z2 xs2 hk
     cases h
     have e1 := hb k (by simp)
     simp only [happ, h2, cond_false, ← e1, hk]
theorem step_congr {o : Oper} {sg sg' : List (Nat × M)} {bx bx' : Nat → Option M} {os : List O} {r : Res} (he : ∀ x ∈ o.op.operands.toList, ev sg x = ev sg' x) (h : step P o sg bx os = some r) (hb : ∀ k ∈ r.eff.touch, bx k = bx' k) :
  step P o sg' bx' os = some r := by
 unfold step at h ⊢
 rw [← vop_congr he]
 split at h
 ·rename_i m ps hv
  exact h
 rename_i hv
 obtain ⟨dst, op, type, pos, after, guard⟩ := o
 simp only at h he ⊢
 cases op <;> (try simp only at h ⊢) <;> try (cases h; done)
 case load t x =>
  rw [← he x (by simp [Op.operands])]
  split at h
  ·rename_i p hp; exact loadB_congr h hb
  ·cases h
 case store t p x =>
  rw [← he p (by simp [Op.operands]), ← he x (by simp [Op.operands])]
  split at h
  ·rename_i p' x' hp hx; exact stoB_congr h hb
  ·cases h
 case alloc t => exact h
 case box t x => rw [← he x (by simp [Op.operands])]; exact h
 case buildSlice t len ps =>
  have e1 : ∀ n, elemsM n sg 0 ps.toList = elemsM n sg' 0 ps.toList := fun n => elemsM_congr (fun p hp => he p.2 (by simp [Op.operands]; exact ⟨p.1, by simpa using hp⟩))
  simp only [e1] at h
  exact h
 case indexAddr t x i => rw [← he x (by simp [Op.operands]), ← he i (by simp [Op.operands])]; exact h
 case makeFunc fn fs caps =>
  cases fn with
  | func f =>
   simp only at h ⊢
   rw [← evs_congr (xs := caps.toList) (fun x hx => he x (by simp only [Op.operands, Array.toList_append]; exact List.mem_append_right _ hx))]
   exact h
  | _ => cases h
 case panic x => rw [← he x (by simp [Op.operands])]; exact h
 case call c =>
  have hc : ∀ x ∈ c.operands.toList, ev sg x = ev sg' x := fun x hx => he x (by simpa [Op.operands] using hx)
  split at h
  ·rename_i x y t u h1 h2 h3
   have hxa : x ∈ c.args.toList := by rw [h2]; simp
   have hya : y ∈ c.args.toList := by rw [h2]; simp
   split at h
   ·rename_i d
    exact appB_congr (hc x (by simp only [Call.operands, Array.toList_append]; exact List.mem_append_right _ hxa)) (hc y (by simp only [Call.operands, Array.toList_append]; exact List.mem_append_right _ hya)) h hb
   ·cases h
  ·exact callA_congr hc h hb
theorem told_spec {x y : Res} (h : told x = some y) : ∃ b c, x.eff.val = .t (.s (.bool b)) ∧ y.eff = { x.eff with val := .t (.s (.bool c)) } ∧ y.cs = x.cs ∧ y.ps = (b = c) :: x.ps := by
 unfold told at h
 split at h
 ·rename_i b c os' h1 h2; cases h; exact ⟨b, c, h1, rfl, rfl, rfl⟩
 ·cases h
theorem told_touch {x y : Res} (h : told x = some y) : y.eff.touch = x.eff.touch := by
 obtain ⟨b, c, _, h2, _⟩ := told_spec h; rw [h2]
theorem wants_congr {ops : List Oper} {o : Oper} {sg sg' : List (Nat × M)} (h : ∀ t ∈ reads ops o, look sg t = look sg' t) : wants ops o sg = wants ops o sg' := by
 unfold wants
 cases hg : o.guard with
 | none => rfl
 | some jb =>
  obtain ⟨j, b⟩ := jb
  simp only
  cases hj : ops[j]? with
  | none => rfl
  | some q =>
   simp only
   cases hd : q.dst with
   | none => rfl
   | some d => simp only; rw [h d (by simp [reads, hg, hj, hd])]
theorem one_congr {ops : List Oper} {i : Nat} {o : Oper} (ho : ops[i]? = some o) {sg sg' : List (Nat × M)} {bx bx' : Nat → Option M} {os : List O} {r : Res} (ht : ∀ t ∈ reads ops o, look sg t = look sg' t)
  (h : one P ops i sg bx os = some r) (hb : ∀ k ∈ r.eff.touch, bx k = bx' k) : one P ops i sg' bx' os = some r := by
 have he : ∀ x ∈ o.op.operands.toList, ev sg x = ev sg' x := fun x hx => ev_congr fun t h => ht t (by unfold reads; exact List.mem_append_left _ (tmpsOf_mem hx h))
 unfold one at h ⊢
 simp only [ho] at h ⊢
 rw [← wants_congr ht]
 split at h
 ·rename_i hw
  split at h
  ·rename_i x hx
   cases hg : guards ops i with
   | false =>
    rw [hg] at h
    simp only [cond_false, Option.some.injEq] at h
    subst h
    rw [step_congr he hx hb]
    simp
   | true =>
    rw [hg] at h
    simp only [cond_true] at h
    rw [step_congr he hx (fun k hk => hb k (by rw [told_touch h]; exact hk))]
    simpa using h
  ·cases h
 ·exact h
 ·cases h
variable {D0 : Dm} {w0 : World} {X : Foot} {DF : Env} {g : Gh} {st : St} {a : Act} {w : World}
theorem wants_sim (h : FInv DF D0 w0 X g st a w) {ops : List Oper} {o : Oper} {b : Bool} (hw : wants ops o st.sg = some b) : Region.wanted o (yielded ops.toArray a.tmps) = b := by
 unfold wants at hw
 unfold Region.wanted
 cases hg : o.guard with
 | none => simp [hg] at hw; subst hw; rfl
 | some jb =>
  obtain ⟨j, want⟩ := jb
  simp only [hg] at hw ⊢
  cases hj : ops[j]? with
  | none => simp [hj] at hw
  | some og =>
   simp only [hj] at hw
   cases hd : og.dst with
   | none => simp [hd] at hw
   | some d =>
    simp only [hd] at hw
    have hs := h.sg d
    simp only [yielded, List.getElem?_toArray, hj, Option.bind_some, hd]
    split at hw
    ·rename_i c hl
     cases hw
     rw [hl] at hs
     have := hs.s_inv
     cases ht : a.tmps[d]? with
     | none => simp [ht, undef] at this
     | some v =>
      have hv : v = .bool c := by simpa [ht] using this
      subst hv
      cases want <;> cases c <;> simp
    ·rename_i vs hl
     cases hw
     rw [hl] at hs
     obtain ⟨us, hu, _⟩ := hs.tup_inv
     cases ht : a.tmps[d]? with
     | none => cases want <;> simp
     | some v =>
      have hv : v = .tuple us.toArray := by simpa [ht] using hu
      subst hv
      cases want <;> simp
    ·cases hw
theorem one_sim (h : FInv DF D0 w0 X g st a w) {ops : List Oper} {i : Nat} {os : List O} {r : Res} (hs : one P ops i st.sg (lookB st.bx) os = some r) (hfree : ∀ k ∈ names r.eff.new, FreeP st k) (hp : ∀ p ∈ r.ps, p)
  (hc : ∀ c ∈ r.cs, CallOk P c.1 c.2.1 c.2.2.1 c.2.2.2.1 c.2.2.2.2) {K : Act → World → Prop} {Q : Exit → Act → World → Prop}
  (hK : r.eff.stop = none → ∀ g' v w', Does w0 X D0 g st.bx w r.eff g' v w' → K (a.put (dstOf ops i) v) w')
  (hQ : ∀ x, r.eff.stop = some x → ∀ g' v w', Does w0 X D0 g st.bx w r.eff g' v w' → Q (.panic [{ v := x, recovered := false }]) a w') : wpOp P ops.toArray Q i K a w := by
 unfold one at hs
 unfold wpOp
 cases ho : ops[i]? with
 | none => simp [ho] at hs
 | some o =>
  have hd : dstOf ops i = o.dst := by simp [dstOf, ho]
  rw [hd] at hK
  simp only [ho] at hs
  simp only [List.getElem?_toArray, ho]
  cases hw : wants ops o st.sg with
  | none => simp [hw] at hs
  | some b =>
   have hwant := wants_sim h hw
   cases b with
   | false =>
    simp only [hw, Option.some.injEq] at hs
    subst hs
    rw [if_neg (by rw [hwant]; simp)]
    exact hK rfl g undef w (Does.plain h (.inl rfl) rfl rfl (.tup [] [] rfl (fun j v c hv => by simp at hv)))
   | true =>
    simp only [hw] at hs
    rw [if_pos hwant]
    refine .inl ?_
    cases hst : step P o st.sg (lookB st.bx) os with
    | none => simp [hst] at hs
    | some r1 =>
     simp only [hst] at hs
     cases hg : guards ops i with
     | false =>
      rw [hg] at hs
      simp only [cond_false, Option.some.injEq] at hs
      subst hs
      exact step_sim h hst hfree hp hc hK hQ
     | true =>
      rw [hg] at hs
      simp only [cond_true] at hs
      obtain ⟨b, c, h1, h2, h3, h4⟩ := told_spec hs
      have hbc : b = c := hp _ (by rw [h4]; simp)
      subst hbc
      have he : r.eff = r1.eff := by rw [h2, ← h1]
      rw [he] at hK hQ hfree
      exact step_sim h hst hfree (fun p hm => hp p (by rw [h4]; exact List.mem_cons_of_mem _ hm)) (by rw [← h3]; exact hc) hK hQ
theorem act_sim (h : FInv DF D0 w0 X g st a w) {ops : List Oper} {i : Nat} {os : List O} {r : Rs} (hs : act P ops i st os = some r) (hp : ∀ p ∈ r.ps, p)
  (hc : ∀ c ∈ r.cs, CallOk P c.1 c.2.1 c.2.2.1 c.2.2.2.1 c.2.2.2.2) {K : Act → World → Prop} {Q : Exit → Act → World → Prop}
  (hK : r.stop = none → ∀ g' a' w', FInv DF D0 w0 X g' r.st a' w' → K a' w')
  (hQ : ∀ x, r.stop = some x → ∀ g' a' w', FInv DF D0 w0 X g' r.st a' w' → Q (.panic [{ v := x, recovered := false }]) a' w') : wpOp P ops.toArray Q i K a w := by
 unfold act at hs
 split at hs
 case h_2 => cases hs
 rename_i x hx
 split at hs
 case h_2 => cases hs
 rename_i st' hd
 cases hs
 have hfree : ∀ k ∈ names x.eff.new, FreeP st k := fun k hk => free_P ((does_spec hd).1 k hk)
 refine one_sim h hx hfree hp hc (fun hst g' v w' hD => ?_) (fun v0 hst g' v w' hD => ?_)
 ·rw [hst] at hd
  exact hK hst g' _ w' (h.does hd hD)
 ·rw [hst] at hd
  exact hQ v0 hst g' _ w' (h.does (d := none) hd hD)
theorem many_sim {ops : List Oper} {Q : Exit → Act → World → Prop} : ∀ (l : List Nat) {g : Gh} {st : St} {a : Act} {w : World} {os : List O} {r : Rs}, FInv DF D0 w0 X g st a w → many P ops l st os = some r →
  (∀ p ∈ r.ps, p) → (∀ c ∈ r.cs, CallOk P c.1 c.2.1 c.2.2.1 c.2.2.2.1 c.2.2.2.2) → (r.stop = none → ∀ g' a' w', FInv DF D0 w0 X g' r.st a' w' → Q .normal a' w') →
  (∀ x, r.stop = some x → ∀ g' a' w', FInv DF D0 w0 X g' r.st a' w' → Q (.panic [{ v := x, recovered := false }]) a' w') → wpOps P ops.toArray Q l a w
 | [], g, st, a, w, os, r, h, hs, hp, hc, hK, hQ => by simp [many] at hs; subst hs; exact hK rfl g a w h
 | i :: l, g, st, a, w, os, r, h, hs, hp, hc, hK, hQ => by
  simp only [many] at hs
  split at hs
  case h_2 => cases hs
  rename_i x hx
  split at hs
  ·rename_i v hv
   cases hs
   rw [wpOps_cons]
   exact act_sim h hx hp hc (fun e => by rw [hv] at e; cases e) (fun v' e => by rw [hv] at e; cases e; exact hQ v rfl)
  ·rename_i hv
   split at hs
   case h_2 => cases hs
   rename_i y hy
   cases hs
   rw [wpOps_cons]
   exact act_sim h hx (fun p hm => hp p (List.mem_append_left _ hm)) (fun c hm => hc c (List.mem_append_left _ hm))
    (fun _ g' a' w' hF => many_sim l hF hy (fun p hm => hp p (List.mem_append_right _ hm)) (fun c hm => hc c (List.mem_append_right _ hm)) hK hQ) (fun v' e => by rw [hv] at e; cases e)
end
end Go.Bm
