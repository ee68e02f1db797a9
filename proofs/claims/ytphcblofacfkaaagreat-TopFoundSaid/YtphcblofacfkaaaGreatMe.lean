/-
  A small logic of our own, part 11b: regions that draw their order: all orders.
-/
import Derived.Test.YtphcblofacfkaaaGreatMd
set_option linter.unusedVariables false
set_option linter.unusedSimpArgs false
section
namespace Go.V
def cand (C : Cx) (o : Oper) : Bool := match o.op with
  | .call c => match c.callee with
    | .value f => match f with
      | .func g => (match C.call g with | some _ => true | none => false)
      | _ => true
    | _ => false
  | _ => false
def okAt (done : List Nat) (o : Oper) : Bool := o.after.toList.all fun e => !Region.binds .any e || memB e.on done
def pick1 (C : Cx) (ops : List Oper) (late : Bool) (done : List Nat) : Nat → Nat → Option Nat
  | 0, _ => none
  | f + 1, i => match ops[i]? with
    | none => none
    | some o => bif !memB i done && (late || !cand C o) && okAt done o then some i else pick1 C ops late done f (i + 1)
def ordr (C : Cx) (ops : List Oper) (n : Nat) : Nat → List Nat → List Nat
  | 0, done => done.reverse
  | f + 1, done => match pick1 C ops false done n 0 with
    | some i => ordr C ops n f (i :: done)
    | none => match pick1 C ops true done n 0 with
      | some i => ordr C ops n f (i :: done)
      | none => done.reverse
def order (C : Cx) (ops : List Oper) : List Nat := bif ops.any (cand C) then ordr C ops ops.length ops.length [] else List.range ops.length
def fzo (x : Nat × Oper) (k : Nat × Oper → Prop) : Prop := match x with
  | (i, ⟨dst, op, ty, pos, after, guard⟩) => k (i, ⟨dst, op, ty, pos, after, guard⟩)
def fzlo (l : List (Nat × Oper)) : (List (Nat × Oper) → Prop) → Prop := @List.rec (Nat × Oper) (fun _ => (List (Nat × Oper) → Prop) → Prop) (fun k => k []) (fun x _ ih k => fzo x fun x => ih fun r => k (x :: r)) l
theorem fzlo_iff : ∀ (l : List (Nat × Oper)) (k : List (Nat × Oper) → Prop), fzlo l k ↔ k l
  | [], k => Iff.rfl
  | x :: r, k => by
    show fzo x (fun x => fzlo r fun r => k (x :: r)) ↔ _
    have : fzo x (fun x => fzlo r fun r => k (x :: r)) = fzlo r fun r => k (x :: r) := rfl
    rw [this, fzlo_iff r]
def vdraw (C : Cx) (N : Nat) (oa : Array Oper) (K : VX → St → Prop) (s : St) : Prop := match s with
  | ⟨e0, H0, df0⟩ => fzlo (loOf oa (order C oa.toList)) fun lo =>
    (KOK (tmpOK oa lo) ∧ KEq (loOf oa (lo.map Prod.fst)) lo) ∧ fzn H0.length fun n => fzn (rank lo lo.length) fun m => fzh (pad m H0) fun H => vdr C N oa oa.toList e0 K lo n [] ⟨e0, H, df0⟩
theorem vdraw_eq (C : Cx) (N : Nat) (oa : Array Oper) (K : VX → St → Prop) (s : St) : vdraw C N oa K s = (fzlo (loOf oa (order C oa.toList)) fun lo =>
  (tmpOK oa lo = true ∧ loOf oa (lo.map Prod.fst) = lo) ∧ vdr C N oa oa.toList s.e K lo s.H.length [] ⟨s.e, pad (rank lo lo.length) s.H, s.df⟩) := by
  cases s
  simp only [vdraw, fzn_eq, fzh_eq, KOK, KEq]
section
variable {P : Program} {C : Cx} {RTT : RT} {N : Nat} {oa : Array Oper} {o : Oper} {S : Nat → Prop} {w : World} {μ : Mu} {r : Option Nat} {B0 : Option Nat} {B : Nat} {lo : List (Nat × Oper)} {S0 : Nat → Prop} {w0 : World} {μ0 : Mu} {s0 : St} {K : VX → St → Prop}
theorem rank_zero (lo : List (Nat × Oper)) : rank lo 0 = 0 := by cases lo <;> rfl
theorem drawn_any (hC : CallsOK P C RTT) (hok : tmpOK oa lo = true) (hloa : ∀ (p i : Nat) o, lo[p]? = some (i, o) → oa[i]? = some o) (hB : B + rank lo lo.length ≤ s0.H.length) (hro : r = none ∨ s0.df = none) {n : Nat} :
    ∀ (fuel : Nat) (m : Nat) (st : Nat → St) (T : Nat → Rec) (hist : Hist) (listed : Array Bool) (S : Nat → Prop) (μ : Mu) (HX : HL) (a : Act) (w : World), st 0 = s0 → listed.size = oa.size → cntF oa.size listed ≤ fuel → (∀ i y, Xof listed i → oa[i]? = some y → ∀ e ∈ y.after, Region.binds .any e = true → Xof listed e.on) →
      Wk C N oa lo B m st T hist → m ≤ lo.length → Kont C N oa s0.e K lo B m st hist → Inv N B0 oa lo B m st T S0 w0 μ0 (Xp lo listed) S μ HX a w → wpAnyIn (FW r) n P .any oa (PostC S0 w0 μ0 (hget s0.H) r N B0 K) fuel listed a w := by
  have hrB : ∀ (st : Nat → St), st 0 = s0 → ∀ p, p < lo.length → B + rank lo p < (st 0).H.length ∨ ∀ y, lo[p]? = some y → isWr y.2.op = false := fun st h0 p hp => by
    cases hw : isWr (lo[p]).2.op with
    | true =>
      have := rank_lt lo p lo.length lo[p] (by simp [hp]) hw hp
      rw [h0]
      exact .inl (by omega)
    | false =>
      refine .inr fun y hy => ?_
      rw [List.getElem?_eq_getElem hp] at hy
      injection hy with hy
      rw [← hy]; exact hw
  have hpos : ∀ {k : Nat}, k < oa.size → ∃ (p : Nat) (y : Oper), p < lo.length ∧ lo[p]? = some (k, y) ∧ oa[k]? = some y := fun {k} hk => by
    obtain ⟨p, ⟨k', y⟩, hx, rfl⟩ := tmpOK_all hok hk
    exact ⟨p, y, (List.getElem?_eq_some_iff.1 hx).1, hx, hloa p k' y hx⟩
  have hall : ∀ (listed : Array Bool), listed.size = oa.size → Region.ready .any oa listed = [] → ∀ p, p < lo.length → Xp lo listed p := fun listed hs hr p => by
    induction p using Nat.strongRecOn with
    | _ p ih =>
      intro hp
      apply Classical.byContradiction
      intro hn
      obtain ⟨⟨k, y⟩, hy⟩ : ∃ x, lo[p]? = some x := ⟨lo[p], by simp [hp]⟩
      have hoy := hloa p k y hy
      have hkl : k < listed.size := by rw [hs]; exact (Array.getElem?_eq_some_iff.1 hoy).1
      have : k ∈ Region.ready .any oa listed := mem_ready.2 ⟨by
        cases hb : listed.getD k true with
        | false => rfl
        | true =>
          refine absurd ⟨_, hy, ?_⟩ hn
          simp only [Xof, Array.getD, hkl, dite_true] at hb ⊢
          exact hb, y, hoy, fun e he hb => by
        obtain ⟨q, x, hq, hx, e1⟩ := tmpOK_edge hok hy e he hb
        obtain ⟨x', hx', hX⟩ := ih q hq (by omega)
        rw [hx] at hx'; injection hx' with hx'; subst hx'
        rw [← e1]; exact hX⟩
      rw [hr] at this
      cases this
  have hend : ∀ (m : Nat) (st : Nat → St) (T : Nat → Rec) (hist : Hist) (listed : Array Bool) (S : Nat → Prop) (μ : Mu) (HX : HL) (a : Act) (w : World), st 0 = s0 → (∀ p, p < lo.length → Xp lo listed p) → Wk C N oa lo B m st T hist → m ≤ lo.length → Kont C N oa s0.e K lo B m st hist →
      Inv N B0 oa lo B m st T S0 w0 μ0 (Xp lo listed) S μ HX a w → PostC S0 w0 μ0 (hget s0.H) r N B0 K .normal a w := fun m st T hist listed S μ HX a w h0 hX hW hm hk h => by
    rcases hk with ⟨rfl, hk⟩ | ⟨i, o, rest, e1, h1, _⟩
    · have hheap : ∀ o, hget HX o = hget (st lo.length).H o := fun o => h.heap hW hm (Nat.le_refl _) fun i hi _ => ⟨fun _ => hX i (by omega), fun h1 => absurd hi (by omega)⟩
      have hg : hget HX = hget (st lo.length).H := funext hheap
      refine ⟨S, μ, _, .normal, hk, trivial, ⟨h.rel.sub h.len.symm fun o ob ho => by rw [hheap]; exact ho, fun j => h.env hW hok hm (Nat.le_refl _) fun i z hz _ => ⟨fun hi => hX i hi, fun hi => absurd (List.getElem?_eq_some_iff.1 hz).1 (by omega)⟩, h.tmps, ?_, ?_⟩, ?_⟩
      · rw [lexDf hW _ (Nat.le_refl _), ← hg]; exact h.df
      · rw [lexDf hW _ (Nat.le_refl _), h0]; exact hro
      · rw [← hg, ← h0]; exact h.tr
    · have := getElem?_of_drop h1
      have hml : m < lo.length := (List.getElem?_eq_some_iff.1 this.1).1
      exact absurd (h.sub m (hX m hml)) (by omega)
  intro fuel
  induction fuel with
  | zero =>
    intro m st T hist listed S μ HX a w h0 hs hc hcl hW hm hk h
    have hXo := cntF_zero listed oa.size (by omega)
    have hX : ∀ p, p < lo.length → Xp lo listed p := fun p hp => by
      obtain ⟨⟨k, y⟩, hy⟩ : ∃ x, lo[p]? = some x := ⟨lo[p], by simp [hp]⟩
      exact ⟨_, hy, hXo k (Array.getElem?_eq_some_iff.1 (hloa p k y hy)).1⟩
    refine ⟨?_, hend m st T hist listed S μ HX a w h0 hX hW hm hk h⟩
    cases hr : Region.ready .any oa listed with
    | nil => rfl
    | cons i r =>
      have hi : i ∈ Region.ready .any oa listed := by rw [hr]; exact List.mem_cons_self
      obtain ⟨h0, y, hy, _⟩ := mem_ready.1 hi
      have hio := (Array.getElem?_eq_some_iff.1 hy).1
      have hx := hXo i hio
      have hil : i < listed.size := by omega
      simp only [Array.getD, hil, dite_true] at hx h0
      rw [h0] at hx; cases hx
  | succ fuel ih =>
    intro m st T hist listed S μ HX a w h0 hs hc hcl hW hm hk h
    refine ⟨fun hr => hend m st T hist listed S μ HX a w h0 (hall listed hs hr) hW hm hk h, fun k hkr => ?_⟩
    obtain ⟨hk0, y, hoy, hpre⟩ := mem_ready.1 hkr
    have hks : k < oa.size := (Array.getElem?_eq_some_iff.1 hoy).1
    have hkl : k < listed.size := by omega
    have hnk : ¬ Xof listed k := by
      simp only [Xof, Array.getD, hkl, dite_true] at hk0 ⊢
      rw [hk0]; exact Bool.false_ne_true
    obtain ⟨p, y', hp, hy, hoy'⟩ := hpos hks
    rw [hoy] at hoy'; injection hoy' with hoy'; subst hoy'
    have hcnt : cntF oa.size (listed.setIfInBounds k true) ≤ fuel := by have := cntF_lt listed k hnk hkl oa.size hks; omega
    have hcl' : ∀ i z, Xof (listed.setIfInBounds k true) i → oa[i]? = some z → ∀ e ∈ z.after, Region.binds .any e = true → Xof (listed.setIfInBounds k true) e.on := fun i z hi hz e he hb => by
      rcases (set_getD hkl).1 hi with hi | rfl
      · exact (set_getD hkl).2 (.inl (hcl i z hi hz e he hb))
      · rw [hoy] at hz; injection hz with hz; subst hz
        exact (set_getD hkl).2 (.inl (hpre e he hb))
    rcases Nat.lt_trichotomy p m with h1 | h1 | h1
    · exact drawn_step hC hok hloa hW hm (hrB st h0) hs hcl h h1 hy hnk hpre fun S' μ' HX' a' w' h' _ => ih m st T hist _ S' μ' HX' a' w' h0 (by simpa using hs) hcnt hcl' hW hm hk h'
    · subst h1
      rcases hk with ⟨h2, _⟩ | ⟨i, o, rest, e1, h2, href, hguard, hwr, hv⟩
      · omega
      · obtain ⟨h3, h4⟩ := getElem?_of_drop h2
        rw [hy] at h3
        simp only [Option.some.injEq, Prod.mk.injEq] at h3
        obtain ⟨rfl, rfl⟩ := h3
        obtain ⟨_, _, hlooks⟩ := turn_of hW hok hloa hm hcl h (Nat.le_refl _) hy hnk hpre
        have hwant := hguard a fun j hj => ⟨S, w, μ, hlooks j hj⟩
        unfold wpOpIn
        simp only [hoy]
        rw [if_pos hwant]
        have hcall := drawn_call (r := r) (S0 := S0) (w0 := w0) (μ0 := μ0) (K := K) (n := n) (K' := wpAnyIn (FW r) n P .any oa (PostC S0 w0 μ0 (hget s0.H) r N B0 K) fuel (listed.setIfInBounds k true)) hC hok hloa hW hm (by rw [h0]; exact hB) hs hcl h (by rw [h0]; exact hro) h2 href hguard hwr (by rw [h0]; exact hv) hnk hpre
          fun S' μ' HX' a' w' st' T' hist' g1 g2 g3 g4 => by
            have hr1 : rank lo (p + 1) = rank lo p := by
              rw [rank_succ lo p k y hy]
              unfold more
              rw [hwr]; rfl
            obtain ⟨m2, st2, T2, hist2, k1, k2, k3, k4, k5, k6, k7⟩ := vdr_seg hC rest (p + 1) st' T' hist' h4 (by omega) g2 (by rw [hr1]; exact g3)
            have h02 : st2 0 = s0 := by rw [k2 0 (by omega), g1 0 (by omega), h0]
            refine ih m2 st2 T2 hist2 _ S' μ' HX' a' w' h02 (by simpa using hs) hcnt hcl' k4 k6 k7 ?_
            -- the walk has gone on; what was carried out has not
            have hT2 : ∀ q, Xp lo (listed.setIfInBounds k true) q → T2 q = T' q := fun q hq => k3 q (g4.sub q hq)
            refine ⟨g4.rel, ?_, g4.tmps, ?_, ?_, fun j hj => ?_, fun q z j hq hz hd => ?_, fun o ho => ?_, fun o q hq hw hlast => ?_, g4.mm, fun q hq => ?_, fun q hq hc => ?_⟩
            · rw [g4.len, ← k2 (p + 1) (Nat.le_refl _)]
              have : ∀ d, p + 1 + d ≤ m2 → (st2 (p + 1 + d)).H.length = (st2 (p + 1)).H.length := fun d => by
                induction d with
                | zero => exact fun _ => rfl
                | succ d ihd =>
                  intro hd
                  rw [← ihd (by omega)]
                  obtain ⟨⟨i', y'⟩, hy'⟩ : ∃ x, lo[p + 1 + d]? = some x := ⟨lo[p + 1 + d], by simp [show p + 1 + d < lo.length by omega]⟩
                  obtain ⟨w1, w2, w3, w4, w5⟩ := k4.chain (p + 1 + d) (by omega)
                  have hrun := (k4.ok (p + 1 + d) i' y' (by omega) hy').run
                  have hcf := k5 (p + 1 + d) (by omega) (by omega)
                  rw [show p + 1 + (d + 1) = p + 1 + d + 1 by omega]
                  rcases hrun with ⟨_, _, _, _, e⟩ | ⟨_, _, _, _, _, e⟩ | ⟨_, _, _, _, _, hl, _, _, e⟩ | ⟨e, _⟩
                  · rw [w4, w2] at e; rw [e]
                  · rw [w4, w2] at e; rw [e]
                  · rw [w4, w2] at e
                    rw [w2] at hl
                    rw [e, mergeH_len _ _ _ _ hl]
                  · rw [hcf] at e; cases e
              have := this (m2 - (p + 1)) (by omega)
              rw [show p + 1 + (m2 - (p + 1)) = m2 by omega] at this
              exact this.symm
            · rw [k2 0 (by omega)]; exact g4.df
            · rw [k2 0 (by omega)]; exact g4.tr
            · rw [k2 0 (by omega)]; exact g4.e1 j hj
            · rw [hT2 q hq]; exact g4.e2 q z j hq hz hd
            · rw [k2 0 (by omega)]
              exact g4.h1 o fun q hq => by have := ho q hq; rwa [hT2 q hq] at this
            · have hqm := g4.sub q hq
              rw [hT2 q hq] at hw
              rw [k2 (q + 1) (by omega)]
              exact g4.h2 o q hq hw fun q' hq' hlt => by have := hlast q' hq' hlt; rwa [hT2 q' hq'] at this
            · have := g4.sub q hq; omega
            · rcases Nat.lt_or_ge q (p + 1) with h5 | h5
              · rw [k3 q h5] at hc; exact g4.done q h5 hc
              · rw [k5 q h5 hq] at hc; cases hc
        rw [h0] at hcall
        exact hcall
    · exfalso
      rcases hk with ⟨h2, _⟩ | ⟨i, o, rest, e1, h2, _, _, _, hv⟩
      · omega
      · obtain ⟨h3, h4⟩ := getElem?_of_drop h2
        rw [vdcall_eq] at hv
        cases hra : rest.all (fun x => reach 5 oa.toList i x.1) with
        | false => rw [hra] at hv; exact hv.elim
        | true =>
          have hmem : (k, y) ∈ rest := by
            have h5 : (lo.drop (m + 1))[p - (m + 1)]? = some (k, y) := by
              rw [List.getElem?_drop, show m + 1 + (p - (m + 1)) = p by omega]; exact hy
            rw [h4] at h5
            exact List.mem_of_getElem? h5
          have hr := List.all_eq_true.1 hra _ hmem
          have hXi : Xof listed i := reach_closed hcl 5 i k hr fun z hz e he hb => by
            rw [hoy] at hz; injection hz with hz; subst hz; exact hpre e he hb
          exact absurd (h.sub m ⟨_, h3, hXi⟩) (by omega)
theorem sound_draw (hC : CallsOK P C RTT) {id : Nat} {s : St} {a : Act} {n : Nat} (hst : RelSt r N B0 S w μ s a) (h : vdraw C N oa K s) : (Code.region id oa true).wpIn (FW r) n P (PostC S w μ (hget s.H) r N B0 K) a w := by
  rw [vdraw_eq] at h
  rw [fzlo_iff] at h
  generalize hlo : loOf oa (order C oa.toList) = lo at h
  obtain ⟨⟨hok, _⟩, h⟩ := h
  have hloa : ∀ (p i : Nat) o, lo[p]? = some (i, o) → oa[i]? = some o := fun p i o h => by rw [← hlo] at h; exact loOf_get h
  obtain ⟨hr, he, hN, hdf, hro⟩ := hst
  let s0 : St := ⟨s.e, pad (rank lo lo.length) s.H, s.df⟩
  have hl0 : s0.H.length = s.H.length + rank lo lo.length := pad_len _ _
  have hg0 : hget s0.H = hget s.H := pad_get _ _
  have hW0 : Wk C N oa lo s.H.length 0 (fun _ => s0) (fun _ => ⟨s.e, s.H, s.e, true, false, .top, [], [], s.H, s.e, s.H⟩) [] :=
    ⟨fun p hp => absurd hp (by omega), fun p i o hp => absurd hp (by omega), fun p q i k o o' h1 h2 => absurd h2 (by omega), fun p i o hp => absurd hp (by omega), fun p q i k o o' hp => absurd hp (by omega)⟩
  obtain ⟨m, st, T, hist, g1, g2, g3, g4, g5, g6, g7⟩ := vdr_seg (B := s.H.length) hC lo 0 (fun _ => s0) _ [] rfl (Nat.zero_le _) hW0 (by rw [rank_zero]; exact h)
  have hst0 : st 0 = s0 := g2 0 (Nat.le_refl _)
  have hno : ∀ p, ¬ Xp lo (Array.replicate oa.size false) p := fun p ⟨x, _, hi⟩ => by
    simp only [Xof, Array.getD_eq_getD_getElem?, Array.getElem?_replicate] at hi
    split at hi <;> simp at hi
  have hlen : ∀ d, d ≤ m → (st d).H.length = s0.H.length := fun d => by
    induction d with
    | zero => exact fun _ => by rw [hst0]
    | succ d ihd =>
      intro hd
      rw [← ihd (by omega)]
      obtain ⟨⟨i', y'⟩, hy'⟩ : ∃ x, lo[d]? = some x := ⟨lo[d], by simp [show d < lo.length by omega]⟩
      obtain ⟨w1, w2, w3, w4, w5⟩ := g4.chain d (by omega)
      have hrun := (g4.ok d i' y' (by omega) hy').run
      have hcf := g5 d (by omega) (by omega)
      rcases hrun with ⟨_, _, _, _, e⟩ | ⟨_, _, _, _, _, e⟩ | ⟨_, _, _, _, _, hl, _, _, e⟩ | ⟨e, _⟩
      · rw [w4, w2] at e; rw [e]
      · rw [w4, w2] at e; rw [e]
      · rw [w4, w2] at e
        rw [w2] at hl
        rw [e, mergeH_len _ _ _ _ hl]
      · rw [hcf] at e; cases e
  have hfin := drawn_any (r := r) (S0 := S) (w0 := w) (μ0 := μ) (s0 := s0) (K := K) (B0 := B0) (n := n) hC hok hloa (B := s.H.length) (by rw [hl0]; exact Nat.le_refl _) hro oa.size m st T hist (Array.replicate oa.size false) S μ s0.H a w.drew hst0 (by simp) (by
    have : ∀ m (l : Array Bool), cntF m l ≤ m := fun m l => by
      induction m with
      | zero => exact Nat.le_refl _
      | succ m ih => simp only [cntF]; split <;> omega
    exact this _ _) (fun i y hi hy => by
    simp only [Xof, Array.getD_eq_getD_getElem?, Array.getElem?_replicate] at hi
    split at hi <;> simp at hi) g4 g6 g7 (by
    refine ⟨⟨by rw [hg0]; exact hr.1.drew, fun o ho => hr.2 o (by omega)⟩, (hlen m (Nat.le_refl _)).symm, hN, ?_, ?_, fun j _ => ?_, fun p y j hi => absurd hi (hno p), fun o _ => by rw [hst0], fun o p hi => absurd hi (hno p), fun p y _ hy hw => hr.2 _ (by omega), fun p hi => absurd hi (hno p), fun p hp hc => ?_⟩
    · rw [hst0, hg0]
      exact hdf.tr (H := hget s.H) hr.1 .drew
    · rw [hst0, hg0]
      exact .drew
    · rw [hst0]
      exact R.keep (w := w) (w' := w.drew) (fun _ h => h) (fun _ _ => rfl) (he j) (.refl _)
    · rw [g5 p (Nat.zero_le _) hp] at hc; cases hc)
  rw [hg0] at hfin
  exact wpIn_region_any hC.mixed hfin
end
end Go.V
end
section
namespace Go.V
def impC (gs : Nat → Bool) (d d' : D) (k : Prop) : Prop := match d' with
  | .top => k
  | .tt => match d with | .tt => k | .bool b => b = true ∧ k | _ => False
  | .ff => match d with | .ff => k | .bool b => b = false ∧ k | _ => False
  | .bool b => match d with | .tt => true = b ∧ k | .ff => false = b ∧ k | .bool b' => b' = b ∧ k | _ => False
  | .int q n => match d with | .int q' n' => bif keq q' q then n' = n ∧ k else False | _ => False
  | .str s => match d with | .str s' => s' = s ∧ k | _ => False
  | .rsl s n g => match d with | .rsl s' n' g' => bif Nat.beq s' s then n' = n ∧ (∀ i j, i < n → j < s → g' i j = g i j) ∧ k else False | .nilS => 0 = n ∧ k | _ => False
  | .eptr n g => match d with | .eptr n' g' => n' = n ∧ (∀ j, j < n → g' j = g j) ∧ k | _ => False
  | .ptr o f => match d with | .ptr o' f' => bif Nat.beq o' o && Nat.beq f' f then k else False | _ => False
  | .own o n => match d with | .own o' n' => bif Nat.beq o' o then n' = n ∧ k else False | .nilS => bif gs o then 0 = n ∧ k else False | _ => False
  | .nilI => match d with | .nilI => k | _ => False
  | .nilS => match d with | .nilS => k | _ => False
  | d' => d = d' ∧ k
def impL (gs : Nat → Bool) (l : List D) : List D → Prop → Prop := @List.rec D (fun _ => List D → Prop → Prop)
  (fun l' k => match l' with | [] => k | _ :: _ => False) (fun x _ ih l' k => match l' with | [] => False | y :: s => impC gs x y (ih s k)) l
theorem impL_cons (gs : Nat → Bool) (x y : D) (r s : List D) (k : Prop) : impL gs (x :: r) (y :: s) k = impC gs x y (impL gs r s k) := rfl
def impB (gs : Nat → Bool) (x y : D) (k : Prop) : Prop := match y with
  | .agg l => match x with | .agg l' => impL gs l' l k | _ => False
  | y => impC gs x y k
def impAL (gs : Nat → Bool) (l : List D) : List D → Prop → Prop := @List.rec D (fun _ => List D → Prop → Prop)
  (fun l' k => match l' with | [] => k | _ :: _ => False) (fun x _ ih l' k => match l' with | [] => False | y :: s => impB gs x y (ih s k)) l
def impA (gs : Nat → Bool) (d d' : D) (k : Prop) : Prop := match d' with
  | .agg l => match d with | .agg l' => impL gs l' l k | _ => False
  | .tup l => match d with | .tup l' => impAL gs l' l k | _ => False
  | d' => impC gs d d' k
def impE (gs : Nat → Bool) (e : Env) (l : List (Nat × D)) : Prop → Prop := @List.rec (Nat × D) (fun _ => Prop → Prop) (fun k => k) (fun p _ ih k => impA gs (e p.1) p.2 (ih k)) l
def noGh : Nat → Bool := fun _ => false
def frzD (n : Nat) (H : HL) (x d : D) (k : Prop) : Prop := match d with
  | .eptr c g => match x with
    | .ptr o off => match hget H o with
      | some (.row cs) => bif (Nat.ble n o && Nat.beq off 0) && (Nat.beq cs.length c && cs.all noRef1) then (∀ j, j < c → cs.getD j .top = g j) ∧ k else False
      | _ => False
    | x => impA noGh x (.eptr c g) k
  | d => impA noGh x d k
def impEf (n : Nat) (H : HL) (e : Env) (l : List (Nat × D)) : Prop → Prop := @List.rec (Nat × D) (fun _ => Prop → Prop) (fun k => k) (fun p _ ih k => frzD n H (e p.1) p.2 (ih k)) l
def impO (gs : Nat → Bool) (x y : Option Ob) (k : Prop) : Prop := match y with
  | none => match x with | none => k | _ => False
  | some (.row cs) => match x with | some (.row cs') => impL gs cs' cs k | _ => False
  | some (.buf e s n g) => match x with | some (.buf e' s' n' g') => bif Nat.beq e' e && Nat.beq s' s then n' = n ∧ (∀ i j, i < n → j < s → g' i j = g i j) ∧ k else False | _ => False
  | some (.mp m) => match x with | some (.mp m') => bif ksEq m'.ks m.ks && ekEq m'.ek m.ek then m'.n = m.n ∧ (∀ q, keyOK m.ks q → m'.has q = m.has q) ∧ (∀ q j, keyOK m.ks q → m.has q = true → m'.get q j = m.get q j) ∧ k else False | _ => False
  | some (.lp l p) => match x with | some (.lp l' p') => l' = l ∧ p' = p ∧ k | _ => False
  | some .dead => match x with | some .dead => k | _ => False
def impH (gs : Nat → Bool) (H H' : HL) : Prop → Prop := @List.rec (Option Ob) (fun _ => HL → Prop → Prop) (fun _ k => k) (fun y _ ih H k => match H with | [] => False | x :: r => impO gs x y (ih r k)) H' H
def lenB : HL → HL → Bool
  | [], [] => true
  | _ :: r, _ :: s => lenB r s
  | _, _ => false
def idb : Nat → Nat → D → Bool
  | 0, _, _ => false
  | f + 1, n, d => match d with
    | .ptr o _ => Nat.blt o n
    | .own o _ => Nat.blt o n
    | .optr o _ _ _ _ => Nat.blt o n
    | .osl o _ _ _ => Nat.blt o n
    | .map o => Nat.blt o n
    | .yld o => Nat.blt o n
    | .stamp o _ => Nat.blt o n
    | .agg l => l.all (idb f n)
    | .tup l => l.all (idb f n)
    | .fn _ a b => a.all (idb f n) && b.all (idb f n)
    | .iface _ d => idb f n d
    | _ => true
def dfIds (n : Nat) : Option (List D) → Bool
  | none => true
  | some df => df.all (idb 4 n)
def idsOK (n : Nat) (sl : List (Nat × D)) (H : HL) (df : Option (List D)) : Bool := (sl.all (fun p => idb 4 n p.2) && H.all fun
  | some (.row cs) => cs.all (idb 4 n)
  | _ => true) && dfIds n df
def envOf : List (Nat × D) → Env
  | [], _ => .top
  | (i, d) :: r, j => bif Nat.beq j i then d else envOf r j
def ghosts (gh : List (Nat × Nat)) : HL := gh.map fun p => some (.buf p.1 p.2 0 fun _ _ => .top)
def isGh (n m : Nat) (o : Nat) : Bool := Nat.ble n o && Nat.blt o (n + m)
def refE (c : Operand) (e : Env) (d : D) : Env := match c with
  | .tmp i => upd e i d
  | _ => e
abbrev VK := (VX → St → Prop) → St → Prop
def initE : List D → Env
  | [], _ => .top
  | d :: r, j => match j with
    | 0 => d
    | j + 1 => initE r j
def vcSeq (y : VK) (K : VX → St → Prop) (e : VX) (s' : St) : Prop := match e with
  | .normal => y K s'
  | e => K e s'
def vcBlock (id : Nat) (K : VX → St → Prop) (e : VX) (s' : St) : Prop := match e with
  | .exit i => bif Nat.beq i id then K .normal s' else K (.exit i) s'
  | e => K e s'
def vcCond (c : Operand) (x y : VK) (K : VX → St → Prop) (s : St) : Prop := match s with
  | ⟨e0, H0, df0⟩ => match ev e0 c with
    | .tt => x K ⟨e0, H0, df0⟩
    | .ff => y K ⟨e0, H0, df0⟩
    | .bool b => (b = true → x K ⟨refE c e0 .tt, H0, df0⟩) ∧ (b = false → y K ⟨refE c e0 .ff, H0, df0⟩)
    | _ => False
theorem vcCond_eq (c : Operand) (x y : VK) (K : VX → St → Prop) (s : St) : vcCond c x y K s = (match ev s.e c with
  | .tt => x K s
  | .ff => y K s
  | .bool b => (b = true → x K ⟨refE c s.e .tt, s.H, s.df⟩) ∧ (b = false → y K ⟨refE c s.e .ff, s.H, s.df⟩)
  | _ => False) := by cases s; rfl
def vcRound {G : Type} (sl : G → List (Nat × D)) (hp : G → HL) (m : G → Nat) (I : G → Prop) (df : Option (List D)) (g : G) (K : VX → St → Prop) (e : VX) (s' : St) : Prop := match e with
  | .normal => ∃ g', s'.df = df ∧ impEf (hp g').length s'.H s'.e (sl g') (impH noGh s'.H (hp g') (I g' ∧ m g' < m g))
  | e => K e s'
def vcLoop1 (x : VK) (K : VX → St → Prop) (s : St) : Prop := match s with
  | ⟨e0, H0, df0⟩ => ∃ (G : Type) (sl : G → List (Nat × D)) (hp : G → HL) (m : G → Nat) (I : G → Prop) (gh : List (Nat × Nat)) (g0 : G),
    (∀ g, idsOK (H0 ++ ghosts gh).length (sl g) (hp g) df0 = true ∧ lenB (hp g) (H0 ++ ghosts gh) = true) ∧ impE (isGh H0.length gh.length) e0 (sl g0) (impH (isGh H0.length gh.length) (H0 ++ ghosts gh) (hp g0) (I g0)) ∧
    ∀ g, I g → x (vcRound sl hp m I df0 g K) ⟨envOf (sl g), hp g, df0⟩
def vcLoop (x : VK) (K : VX → St → Prop) (s : St) : Prop := match s with
  | ⟨e0, H0, df0⟩ => fzh H0 fun H => vcLoop1 x K ⟨e0, H, df0⟩
def bindE (N : Nat) (ps : List Nat) : List D → Env → (Env → Prop) → Prop := @List.rec Nat (fun _ => List D → Env → (Env → Prop) → Prop)
  (fun ds e k => match ds with | [] => k e | _ => False) (fun p _ ih ds e k => match ds with | [] => False | d :: ds => bif Nat.blt p N then ih ds (upd e p d) k else False) ps
def lpIs (H : HL) (ol : Nat) (r0 : Loop) (p : Pj) (k : Prop) : Prop := match hget H ol with
  | some (.lp r q) => (r = r0 ∧ q = p) ∧ k
  | _ => False
def lpEnd (K : Res → HL → Prop) (ol : Nat) (r0 : Loop) (x : VX) (s : St) : Prop := match s with
  | ⟨e0, H0, df0⟩ => match x with
    | .normal => lpIs H0 ol r0 .busy (K (.ret .tt) (H0.set ol (some (.lp r0 .ready))))
    | .ret => lpIs H0 ol r0 .busy (K (.ret .ff) (H0.set ol (some (.lp r0 .ret))))
    | .exit i => lpIs H0 ol r0 .busy (K (.ret .ff) (H0.set ol (some (.lp r0 (.exit i)))))
    | .panic _ => False
def lpBody (body : VK) (K : Res → HL → Prop) (ol : Nat) (r0 : Loop) (x : VX) (s : St) : Prop := match s with
  | ⟨e0, H0, df0⟩ => match x with
    | .normal => lpIs H0 ol r0 .ready (body (lpEnd K ol r0) ⟨e0, H0.set ol (some (.lp r0 .busy)), none⟩)
    | _ => False
def vcYield (N : Nat) (ol : Nat) (e : Env) (r0 : Loop) (ps : List Nat) (asg body : VK) : CRule := fun ds H K =>
  lpIs H ol r0 .ready (bindE N ps ds e fun e1 => asg (lpBody body K ol r0) ⟨e1, H, none⟩)
def lpOut (K : VX → St → Prop) (s : St) (ol : Nat) (r : Res) (H : HL) : Prop := match s with
  | ⟨e0, H0, df0⟩ => match r with
    | .pan d => fzh H fun H => K (.panic d) ⟨e0, H, df0⟩
    | .ret _ => match hget H ol with
      | some (.lp r p) => match p with
        | .ready => fzh (H.set ol (some (.lp r .gone))) fun H => K .normal ⟨e0, H, df0⟩
        | .ret => fzh (H.set ol (some (.lp r .gone))) fun H => K .ret ⟨e0, H, df0⟩
        | .exit i => fzh (H.set ol (some (.lp r .gone))) fun H => K (.exit i) ⟨e0, H, df0⟩
        | _ => False
      | _ => False
theorem lpOut_eq (K : VX → St → Prop) (s : St) (ol : Nat) (r : Res) (H : HL) : lpOut K s ol r H = (match r with
  | .pan d => fzh H fun H => K (.panic d) ⟨s.e, H, s.df⟩
  | .ret _ => match hget H ol with
    | some (.lp r p) => match p with
      | .ready => fzh (H.set ol (some (.lp r .gone))) fun H => K .normal ⟨s.e, H, s.df⟩
      | .ret => fzh (H.set ol (some (.lp r .gone))) fun H => K .ret ⟨s.e, H, s.df⟩
      | .exit i => fzh (H.set ol (some (.lp r .gone))) fun H => K (.exit i) ⟨s.e, H, s.df⟩
      | _ => False
    | _ => False) := by cases s; rfl
def vcRange (C : Cx) (N : Nat) (f : Operand) (ps : Array Nat) (asg body : VK) (K : VX → St → Prop) (s : St) : Prop := match s with
  | ⟨e0, H0, df0⟩ => match ev e0 f with
    | .fn g fs cs => match C.iter g with
      | some it => match df0 with
        | some df => fzh H0 fun H => fzn H.length fun n => ∀ r0 : Loop, fzl (fs ++ [.yld n] ++ cs) fun ds => it n (vcYield N n e0 r0 ps.toList asg body) ds (H ++ [some (.lp r0 .ready)]) (lpOut K ⟨e0, H, some df⟩ n)
        | none => False
      | none => False
    | _ => False
theorem vcRange_eq (C : Cx) (N : Nat) (f : Operand) (ps : Array Nat) (asg body : VK) (K : VX → St → Prop) (s : St) : vcRange C N f ps asg body K s = (match ev s.e f with
  | .fn g fs cs => match C.iter g with
    | some it => match s.df with
      | some df => fzh s.H fun H => ∀ r0 : Loop, it H.length (vcYield N H.length s.e r0 ps.toList asg body) (fs ++ [.yld H.length] ++ cs) (H ++ [some (.lp r0 .ready)]) (lpOut K ⟨s.e, H, some df⟩ H.length)
      | none => False
    | none => False
  | _ => False) := by
  cases s
  simp only [vcRange, fzn_eq, fzl_eq]
def vc (C : Cx) (N : Nat) (c : Code) : VK := @Code.rec (fun _ => VK)
  (fun K s => K .normal s)
  (fun _ ops draw K s => bif draw then vdraw C N ops K s else vops C N ops.toList K ops.toList s)
  (fun _ _ x y K s => x (vcSeq y K) s)
  (fun c _ _ x y K s => vcCond c x y K s)
  (fun id _ x K s => x (vcBlock id K) s)
  (fun _ x K s => vcLoop x K s)
  (fun f ps _ _ x y K s => vcRange C N f ps x y K s)
  (fun i K s => K (.exit i) s)
  (fun _ x K s => x K s)
  (fun _ K s => K .normal s)
  (fun _ _ _ => False)
  (fun K s => K .ret s)
  (fun _ _ _ => False) c
def vresB (C : Cx) (r : ResultVar) (e : Env) (H : HL) (k : D → Prop) : Prop := match r with
  | .tmp t => fz (e t) k
  | .cell a t => vload (C.ty t) (e a) H k
def vres (C : Cx) (rs : List ResultVar) (e : Env) (H : HL) : (List D → Prop) → Prop := @List.rec ResultVar (fun _ => (List D → Prop) → Prop) (fun k => k []) (fun r _ ih k => vresB C r e H fun d => ih fun ds => k (d :: ds)) rs
def imp1 (d : D) (k : D → Prop) : Prop := ∃ d0, k d0 ∧ Imp d d0
def vleave (C : Cx) (rs : List ResultVar) (e : Env) (fin : List D → HL → Prop) (finP : D → HL → Prop) (df : List D) : Md → HL → Prop := @List.rec D (fun _ => Md → HL → Prop)
  (fun md H => match md with | .ret => vres C rs e H fun ds => fin ds H | .pan d => finP d H)
  (fun d _ ih md H => match d with
    | .fn f fs cs => match C.dfr f with
      | some dr => dr md (fs ++ cs) H fun md H => fzh H fun H => ih md H
      | none => False
    | _ => False) df
def vbody (C : Cx) (fn : Func) (code : Code) (fin : List D → HL → Prop) (finP : D → HL → Prop) (ds : List D) (H : HL) : Prop := vc C fn.ntmps code (fun x s => match s.df with
  | some df => (match x with
    | .ret => vleave C fn.results.toList s.e fin finP df .ret s.H
    | .normal => vleave C fn.results.toList s.e fin finP df .ret s.H
    | .panic d => vleave C fn.results.toList s.e fin finP df (.pan d) s.H
    | .exit _ => False)
  | none => False) ⟨initE ds, H, some []⟩
def finPure (k : D → Prop) (ds : List D) (H : HL) : Prop := viewal H ds fun ds => bif ds.all noRef then (match ds with
  | [d] => imp1 d k
  | ds => imp1 (.tup ds) k) else False
def finCall (K : Res → HL → Prop) (ds : List D) (H : HL) : Prop := match ds with
  | [d] => K (.ret d) H
  | ds => K (.ret (.tup ds)) H
def vfun (C : Cx) (fn : Func) (code : Code) (k : D → Prop) (ds : List D) : Prop := vbody C fn code (finPure k) (fun _ _ => False) ds []
def inlC (C : Cx) (fn : Func) (code : Code) : CRule := fun ds H K => bif Nat.ble ds.length fn.ntmps then vbody C fn code (finCall K) (fun d H => K (.pan d) H) ds H else False
def inlI (C : Cx) (fn : Func) (code : Code) : IRule := fun ol h => inlC { C with yld := some (ol, h) } fn code
def recD : Md → D
  | .ret => .nilI
  | .pan d => d
def recOp (o : Oper) : Bool := match o.guard with
  | none => match o.op with
    | .call c => match c.callee with
      | .builtin .recover => nilB (c.args.toList.map fun _ => 0)
      | _ => false
    | _ => false
  | _ => false
def inlD (C : Cx) (fn : Func) (code : Code) : DRule := fun md ds H K => match code with
  | .seq (.region _ ops false) rest => match ops.toList with
    | [o1, o2] => bif recOp o1 && Nat.ble ds.length fn.ntmps then (match o2.guard with
      | none => match o2.op with
        | .assign (.tmp t) => fz (recD md) fun d0 => vput fn.ntmps (initE ds) o1.dst d0 fun e => vput fn.ntmps e o2.dst (e t) fun e =>
            vc { C with iter := fun _ => none } fn.ntmps rest (fun x s => match x with
              | .ret => match s.df with | some [] => K .ret s.H | _ => False
              | .normal => match s.df with | some [] => K .ret s.H | _ => False
              | _ => False) ⟨e, H, some []⟩
        | _ => False
      | _ => False) else False
    | _ => False
  | _ => False
end Go.V
end
section
namespace Go.V
section
variable {P : Program} {C : Cx} {T : RT} {N : Nat} {S : Nat → Prop} {w : World} {μ : Mu} {r : Option Nat} {B : Option Nat}
theorem wpIn_loop_ghost {F : Fence} {n : Nat} {c : Code} {G : Type} {Q : Exit → Act → World → Prop} {a : Act} {w : World} (I : G → Act → World → Prop) (m : G → Nat) (g0 : G) (h₀ : I g0 a w)
    (round : ∀ g a w, I g a w → c.wpIn F n P (Exit.then (fun a' w' => ∃ g', I g' a' w' ∧ m g' < m g) Q) a w) : (Code.loop c).wpIn F n P Q a w := by
  intro b k cs hro hb hr
  have key : ∀ j g a w, m g = j → I g a w → ∃ e a' w', Q e a' w' ∧ ArrivesIn (Machine.fenced P F) P (lone (b.atR a (.code c :: .inLoop c :: k)) cs w) b k cs e a' w' := by
    intro j
    induction j using Nat.strongRecOn with
    | _ j ih =>
      intro g a w hn hI
      obtain ⟨e, a₁, w₁, hq, harr⟩ := round g a w hI b (.inLoop c :: k) cs hro hb hr
      cases e with
      | normal =>
        obtain ⟨g', hI₁, hlt⟩ := hq
        obtain ⟨e₂, a₂, w₂, hq₂, harr₂⟩ := ih (m g') (hn ▸ hlt) g' a₁ w₁ rfl hI₁
        exact ⟨e₂, a₂, w₂, hq₂, .of_steps (StepsIn.trans harr (.one (fenced_calm hb hr rfl) stepR_inLoop)) harr₂⟩
      | exit id => exact ⟨_, a₁, w₁, hq, .pass (x := .inLoop c) rfl (fun _ _ => .inl (by simp)) harr⟩
      | goto l => exact ⟨_, a₁, w₁, hq, .pass (x := .inLoop c) rfl (fun _ _ => .inl (by simp)) harr⟩
      | ret => exact ⟨_, a₁, w₁, hq, .pass (x := .inLoop c) rfl (fun _ _ => .inl (by simp)) harr⟩
      | panic ch => exact ⟨_, a₁, w₁, hq, .pass (x := .inLoop c) rfl (fun _ _ => .inl (by simp)) harr⟩
      | outgrown => exact ⟨_, a₁, w₁, hq, .pass (x := .inLoop c) rfl (fun _ _ => .inl (by simp)) harr⟩
  obtain ⟨e, a', w', hq, harr⟩ := key _ g0 a w rfl h₀
  exact ⟨e, a', w', hq, .of_steps (.one (fenced_calm hb hr rfl) stepR_loop) harr⟩
variable {gs : Nat → Bool}
theorem impC_sound (hgs : ∀ o, gs o = true → μ o = some (.slice none 0 0)) {d d' : D} {v : Value} {k : Prop} (h : impC gs d d' k) (hR : R S w μ d v) : R S w μ d' v ∧ k := by
  unfold impC at h
  split at h
  · exact ⟨.top v, h⟩
  · split at h
    · exact ⟨hR, h⟩
    · obtain ⟨rfl, h⟩ := h; cases hR; exact ⟨.tt, h⟩
    · exact h.elim
  · split at h
    · exact ⟨hR, h⟩
    · obtain ⟨rfl, h⟩ := h; cases hR; exact ⟨.ff, h⟩
    · exact h.elim
  · split at h
    · obtain ⟨rfl, h⟩ := h; cases hR; exact ⟨.bool _, h⟩
    · obtain ⟨rfl, h⟩ := h; cases hR; exact ⟨.bool _, h⟩
    · obtain ⟨rfl, h⟩ := h; exact ⟨hR, h⟩
    · exact h.elim
  · split at h
    · rename_i q n _ q' n'
      cases hq : keq q' q with
      | false => simp [hq] at h
      | true =>
        simp only [hq, cond_true] at h
        obtain rfl := keq_eq hq
        obtain ⟨rfl, h⟩ := h
        exact ⟨hR, h⟩
    · exact h.elim
  · split at h
    · obtain ⟨rfl, h⟩ := h; exact ⟨hR, h⟩
    · exact h.elim
  · split at h
    · rename_i s n g _ s' n' g'
      cases hq : Nat.beq s' s with
      | false => simp [hq] at h
      | true =>
        simp only [hq, cond_true] at h
        obtain rfl := Nat.eq_of_beq_eq_true hq
        obtain ⟨rfl, hg, h⟩ := h
        cases hR with
        | rsl _ _ _ A c val h1 h2 h3 => exact ⟨.rsl _ _ _ A c val h1 h2 fun i j hi hj => by rw [← hg i j hi hj]; exact h3 i j hi hj, h⟩
    · obtain ⟨rfl, h⟩ := h
      cases hR
      exact ⟨.rsl _ 0 _ none 0 (fun _ _ => undef) (Nat.le_refl _) (fun h => absurd h (by omega)) (fun i j hi => absurd hi (by omega)), h⟩
    · exact h.elim
  · split at h
    · obtain ⟨rfl, hg, h⟩ := h
      cases hR with
      | eptr _ _ b off val h1 h2 h3 => exact ⟨.eptr _ _ b off val h1 h2 fun j hj => by rw [← hg j hj]; exact h3 j hj, h⟩
    · exact h.elim
  · split at h
    · rename_i o f _ o' f'
      cases hq : (Nat.beq o' o && Nat.beq f' f) with
      | false => simp [hq] at h
      | true =>
        simp only [hq, cond_true] at h
        simp only [Bool.and_eq_true] at hq
        obtain rfl := Nat.eq_of_beq_eq_true hq.1
        obtain rfl := Nat.eq_of_beq_eq_true hq.2
        exact ⟨hR, h⟩
    · exact h.elim
  · split at h
    · rename_i o n _ o' n'
      cases hq : Nat.beq o' o with
      | false => simp [hq] at h
      | true =>
        simp only [hq, cond_true] at h
        obtain rfl := Nat.eq_of_beq_eq_true hq
        obtain ⟨rfl, h⟩ := h
        exact ⟨hR, h⟩
    · rename_i o n _
      cases hq : gs o with
      | false => simp [hq] at h
      | true =>
        simp only [hq, cond_true] at h
        obtain ⟨rfl, h⟩ := h
        cases hR
        exact ⟨.own o 0 none 0 0 _ (hgs o hq) (Nat.le_refl _) rfl (fun _ => rfl), h⟩
    · exact h.elim
  · split at h
    · exact ⟨hR, h⟩
    · exact h.elim
  · split at h
    · exact ⟨hR, h⟩
    · exact h.elim
  · obtain ⟨rfl, h⟩ := h
    exact ⟨hR, h⟩
theorem RL.cons_inv {d : D} {ds : List D} {v : Value} {vs : List Value} (h : RL S w μ (d :: ds) (v :: vs)) : R S w μ d v ∧ RL S w μ ds vs :=
  ⟨h.2 0 d v rfl rfl, by simpa using h.1, fun i x y a b => h.2 (i + 1) x y (by simpa using a) (by simpa using b)⟩
theorem RL.cons {d : D} {ds : List D} {v : Value} {vs : List Value} (h : R S w μ d v) (h' : RL S w μ ds vs) : RL S w μ (d :: ds) (v :: vs) :=
  ⟨by simp [h'.1], fun i x y a b => by
    cases i with
    | zero => simp at a b; subst a; subst b; exact h
    | succ i => exact h'.2 i x y (by simpa using a) (by simpa using b)⟩
theorem impL_sound (hgs : ∀ o, gs o = true → μ o = some (.slice none 0 0)) : ∀ {l l' : List D} {vs : List Value} {k : Prop}, RL S w μ l vs → impL gs l l' k → RL S w μ l' vs ∧ k
  | [], [], vs, k, hr, h => ⟨hr, h⟩
  | x :: r, y :: s, [], k, hr, h => by have := hr.1; simp at this
  | x :: r, y :: s, v :: vs, k, hr, h => by
    rw [impL_cons] at h
    obtain ⟨h1, h2⟩ := hr.cons_inv
    obtain ⟨g1, g2⟩ := impC_sound hgs h h1
    obtain ⟨g3, g4⟩ := impL_sound hgs h2 g2
    exact ⟨.cons g1 g3, g4⟩
  | [], _ :: _, _, _, _, h => h.elim
  | _ :: _, [], _, _, _, h => h.elim
theorem R.toRL {l : List D} {vs : Array Value} (h1 : l.length = vs.size) (h2 : ∀ (i : Nat) d v, l[i]? = some d → vs[i]? = some v → R S w μ d v) : RL S w μ l vs.toList := ⟨by simpa using h1, fun i d v a b => h2 i d v a (by simpa using b)⟩
theorem impB_sound (hgs : ∀ o, gs o = true → μ o = some (.slice none 0 0)) {d d' : D} {v : Value} {k : Prop} (h : impB gs d d' k) (hR : R S w μ d v) : R S w μ d' v ∧ k := by
  unfold impB at h
  split at h
  · split at h
    · cases hR with
      | agg _ us hl hR =>
        obtain ⟨g1, g2⟩ := impL_sound hgs (R.toRL hl hR) h
        exact ⟨.agg _ us (by simpa using g1.1) fun i d v a b => g1.2 i d v a (by simpa using b), g2⟩
    · exact h.elim
  · exact impC_sound hgs h hR
theorem impAL_sound (hgs : ∀ o, gs o = true → μ o = some (.slice none 0 0)) : ∀ {l l' : List D} {vs : List Value} {k : Prop}, RL S w μ l vs → impAL gs l l' k → RL S w μ l' vs ∧ k
  | [], [], vs, k, hr, h => ⟨hr, h⟩
  | x :: r, y :: s, [], k, hr, h => by have := hr.1; simp at this
  | x :: r, y :: s, v :: vs, k, hr, h => by
    have h : impB gs x y (impAL gs r s k) := h
    obtain ⟨h1, h2⟩ := hr.cons_inv
    obtain ⟨g1, g2⟩ := impB_sound hgs h h1
    obtain ⟨g3, g4⟩ := impAL_sound hgs h2 g2
    exact ⟨.cons g1 g3, g4⟩
  | [], _ :: _, _, _, _, h => h.elim
  | _ :: _, [], _, _, _, h => h.elim
theorem impA_sound (hgs : ∀ o, gs o = true → μ o = some (.slice none 0 0)) {d d' : D} {v : Value} {k : Prop} (h : impA gs d d' k) (hR : R S w μ d v) : R S w μ d' v ∧ k := by
  unfold impA at h
  split at h
  · split at h
    · cases hR with
      | agg _ us hl hR =>
        obtain ⟨g1, g2⟩ := impL_sound hgs (R.toRL hl hR) h
        exact ⟨.agg _ us (by simpa using g1.1) fun i d v a b => g1.2 i d v a (by simpa using b), g2⟩
    · exact h.elim
  · split at h
    · cases hR with
      | tup _ us hl hR =>
        obtain ⟨g1, g2⟩ := impAL_sound hgs (R.toRL hl hR) h
        exact ⟨.tup _ us (by simpa using g1.1) fun i d v a b => g1.2 i d v a (by simpa using b), g2⟩
    · exact h.elim
  · exact impC_sound hgs h hR
theorem impE_sound (hgs : ∀ o, gs o = true → μ o = some (.slice none 0 0)) {e : Env} {a : Act} (he : EnvR S w μ e a) : ∀ {sl : List (Nat × D)} {k : Prop}, impE gs e sl k → EnvR S w μ (envOf sl) a ∧ k
  | [], k, h => ⟨fun j => .top _, h⟩
  | (i, d) :: r, k, h => by
    have h : impA gs (e i) d (impE gs e r k) := h
    obtain ⟨g1, g2⟩ := impA_sound hgs h (he i)
    obtain ⟨g3, g4⟩ := impE_sound hgs he g2
    refine ⟨fun j => ?_, g4⟩
    simp only [envOf]
    cases hj : Nat.beq j i with
    | true => obtain rfl := Nat.eq_of_beq_eq_true hj; exact g1
    | false => exact g3 j
def ImpO (S : Nat → Prop) (w : World) (μ : Mu) (x y : Option Ob) (k : Prop) : Prop := match y with
  | none => x = none ∧ k
  | some ob' => ∃ ob, x = some ob ∧ ∀ mv, ObR S w μ mv ob → ObR S w μ mv ob' ∧ k
theorem impO_sound (hgs : ∀ o, gs o = true → μ o = some (.slice none 0 0)) {x y : Option Ob} {k : Prop} (h : impO gs x y k) : ImpO S w μ x y k := by
  cases y with
  | none => cases x with
    | none => exact ⟨rfl, h⟩
    | some _ => exact h.elim
  | some y => cases x with
    | none => cases y <;> exact h.elim
    | some x => cases y with
      | row cs => cases x with
        | row cs' =>
          refine ⟨_, rfl, fun mv ho => ?_⟩
          obtain ⟨b, cells, T, h1, h2, h3, h4, h5⟩ := ho
          obtain ⟨g1, g2⟩ := impL_sound hgs (R.toRL h3.symm h4) h
          exact ⟨⟨b, cells, T, h1, h2, by simpa using g1.1.symm, fun i d v a b => g1.2 i d v a (by simpa using b), h5⟩, g2⟩
        | _ => exact h.elim
      | mp m => cases x with
        | mp m' =>
          have h' : (bif ksEq m'.ks m.ks && ekEq m'.ek m.ek then m'.n = m.n ∧ (∀ q, keyOK m.ks q → m'.has q = m.has q) ∧ (∀ q j, keyOK m.ks q → m.has q = true → m'.get q j = m.get q j) ∧ k else False) := h
          cases hq : (ksEq m'.ks m.ks && ekEq m'.ek m.ek) with
          | false => rw [hq] at h'; exact h'.elim
          | true =>
            rw [hq, cond_true] at h'
            simp only [Bool.and_eq_true] at hq
            obtain ⟨h1, h2, h3, hk⟩ := h'
            have hks := ksEq_eq hq.1
            have hek := ekEq_eq hq.2
            refine ⟨_, rfl, fun mv ⟨r, es, clock, g1, g2, g3, g4, g5, g6⟩ => ⟨⟨r, es, clock, g1, g2, g3, by rw [g4, h1], fun x hx => ?_, fun q hq hh => ?_⟩, hk⟩⟩
            · obtain ⟨a1, a2, a3⟩ := g5 x hx
              rw [hks] at a1
              rw [h2 _ a1] at a2
              refine ⟨a1, a2, ?_⟩
              rw [a3, hek]
              congr 1
              funext j
              exact h3 _ j a1 a2
            · exact g6 q (by rw [hks]; exact hq) (by rw [h2 q hq]; exact hh)
        | _ => exact h.elim
      | lp l p => cases x with
        | lp l' p' =>
          obtain ⟨rfl, rfl, hk⟩ := h
          exact ⟨_, rfl, fun mv hmv => ⟨hmv, hk⟩⟩
        | _ => exact h.elim
      | dead => cases x with
        | dead => exact ⟨_, rfl, fun mv hmv => ⟨hmv, h⟩⟩
        | _ => exact h.elim
      | buf e s n g => cases x with
        | row _ => exact h.elim
        | mp _ => exact h.elim
        | lp _ _ => exact h.elim
        | dead => exact h.elim
        | buf e' s' n' g' =>
          have h' : (bif Nat.beq e' e && Nat.beq s' s then n' = n ∧ (∀ i j, i < n → j < s → g' i j = g i j) ∧ k else False) := h
          cases hq : (Nat.beq e' e && Nat.beq s' s) with
          | false => rw [hq] at h'; exact h'.elim
          | true =>
            rw [hq, cond_true] at h'
            simp only [Bool.and_eq_true] at hq
            obtain rfl := Nat.eq_of_beq_eq_true hq.1
            obtain rfl := Nat.eq_of_beq_eq_true hq.2
            obtain ⟨rfl, hg, hk⟩ := h'
            refine ⟨_, rfl, fun mv ⟨xs, h1, h2⟩ => ⟨⟨xs, h1, fun i j hi hj => ?_⟩, hk⟩⟩
            rw [← hg i j hi hj]
            exact h2 i j hi hj
theorem impH_sound (hgs : ∀ o, gs o = true → μ o = some (.slice none 0 0)) {H : HL} (hr : ∀ o ob, hget H o = some ob → ∃ mv, ObR S w μ mv ob) : ∀ {H' : HL} {k : Prop}, impH gs H H' k → H'.length ≤ H.length ∧ (∀ o, o < H'.length → match hget H' o with
    | none => hget H o = none
    | some ob' => ∃ ob, hget H o = some ob ∧ ∀ mv, ObR S w μ mv ob → ObR S w μ mv ob') ∧ k := by
  induction H with
  | nil =>
    intro H' k h
    cases H' with
    | nil => exact ⟨Nat.le_refl _, fun o ho => absurd ho (by simp), h⟩
    | cons _ _ => exact h.elim
  | cons x r ih =>
    intro H' k h
    cases H' with
    | nil => exact ⟨Nat.zero_le _, fun o ho => absurd ho (by simp), h⟩
    | cons y s =>
      have h1 := impO_sound hgs (S := S) (w := w) (μ := μ) (h : impO gs x y (impH gs r s k))
      have ih' := ih (fun o ob ho => hr (o + 1) ob (by simpa [hget] using ho)) (H' := s) (k := k)
      cases y with
      | none =>
        obtain ⟨e, h2⟩ := h1
        obtain ⟨g1, g2, g3⟩ := ih' h2
        refine ⟨by simp; omega, fun o ho => ?_, g3⟩
        cases o with
        | zero => simp [hget, e]
        | succ o => simpa [hget] using g2 o (by simpa using ho)
      | some ob' =>
        obtain ⟨ob, e, h2⟩ := h1
        obtain ⟨mv, hmv⟩ := hr 0 ob (by simp [hget, e])
        obtain ⟨g1, g2, g3⟩ := ih' (h2 mv hmv).2
        refine ⟨by simp; omega, fun o ho => ?_, g3⟩
        cases o with
        | zero => simpa [hget, e] using fun mv h => (h2 mv h).1
        | succ o => simpa [hget] using g2 o (by simpa using ho)
theorem lenB_len : ∀ {H H' : HL}, lenB H H' = true → H.length = H'.length
  | [], [], _ => rfl
  | x :: r, y :: s, h => by simp [lenB_len (H := r) (H' := s) (by simpa [lenB] using h)]
  | [], _ :: _, h => by simp [lenB] at h
  | _ :: _, [], h => by simp [lenB] at h
def cutM (n : Nat) (μ : Mu) : Mu := fun o => if o < n then μ o else none
theorem cutM_le {n : Nat} {o : Nat} (h : o < n) : cutM n μ o = μ o := by simp [cutM, h]
theorem idb_R : ∀ (f n : Nat) {d : D} {v : Value}, idb f n d = true → R S w μ d v → R S w (cutM n μ) d v
  | 0, n, d, v, h, _ => by simp [idb] at h
  | f + 1, n, d, v, h, hR => by
    cases hR with
    | top v => exact .top v
    | tt => exact .tt
    | ff => exact .ff
    | int k m => exact .int k m
    | bool b => exact .bool b
    | str s => exact .str s
    | nilI => exact .nilI
    | nilS => exact .nilS
    | nilP => exact .nilP
    | rsl size m g A c val h1 h2 h3 => exact .rsl size m g A c val h1 h2 h3
    | eptr m g b off val h1 h2 h3 => exact .eptr m g b off val h1 h2 h3
    | ptr o off b hm => exact .ptr o off b (by rw [cutM_le ((blt_iff _ _).1 (by simpa [idb] using h))]; exact hm)
    | own o m A m' c v hm h1 h2 h3 => exact .own o m A m' c v (by rw [cutM_le ((blt_iff _ _).1 (by simpa [idb] using h))]; exact hm) h1 h2 h3
    | optr o m size i j A m' c b hm h1 h2 => exact .optr o m size i j A m' c b (by rw [cutM_le ((blt_iff _ _).1 (by simpa [idb] using h))]; exact hm) h1 h2
    | osl o off m size b c hm hn => exact .osl o off m size b c (by rw [cutM_le ((blt_iff _ _).1 (by simpa [idb] using h))]; exact hm) hn
    | map o r ks hm => exact .map o r ks (by rw [cutM_le ((blt_iff _ _).1 (by simpa [idb] using h))]; exact hm)
    | yld o l hm => exact .yld o l (by rw [cutM_le ((blt_iff _ _).1 (by simpa [idb] using h))]; exact hm)
    | stamp o k r ks i born hm hi => exact .stamp o k r ks i born (by rw [cutM_le ((blt_iff _ _).1 (by simpa [idb] using h))]; exact hm) hi
    | agg cs vs h1 h2 =>
      simp only [idb, List.all_eq_true] at h
      exact .agg cs vs h1 fun i d v a b => idb_R f n (h d (List.mem_of_getElem? a)) (h2 i d v a b)
    | tup cs vs h1 h2 =>
      simp only [idb, List.all_eq_true] at h
      exact .tup cs vs h1 fun i d v a b => idb_R f n (h d (List.mem_of_getElem? a)) (h2 i d v a b)
    | fn g fs cs vf vc h1 h2 h3 h4 =>
      simp only [idb, Bool.and_eq_true, List.all_eq_true] at h
      exact .fn g fs cs vf vc h1 h2 (fun i d v a b => idb_R f n (h.1 d (List.mem_of_getElem? a)) (h3 i d v a b)) fun i d v a b => idb_R f n (h.2 d (List.mem_of_getElem? a)) (h4 i d v a b)
    | iface t d v h1 => exact .iface t d v (idb_R f n (by simpa [idb] using h) h1)
theorem envOf_ids {n : Nat} {sl : List (Nat × D)} (h : sl.all (fun p => idb 4 n p.2) = true) (j : Nat) : idb 4 n (envOf sl j) = true := by
  induction sl with
  | nil => rfl
  | cons p r ih =>
    obtain ⟨i, d⟩ := p
    simp only [List.all_cons, Bool.and_eq_true] at h
    simp only [envOf]
    cases hj : Nat.beq j i with
    | true => exact h.1
    | false => exact ih h.2
theorem cut_state {a : Act} {s : St} {sl : List (Nat × D)} {Hg H0 : HL} {S0 : Nat → Prop} {w0 : World} {μ0 : Mu} {k : Prop} (hst : RelSt r N B S w μ s a) (t : Tr S0 w0 μ0 (hget H0) S w μ (hget s.H)) (h0 : ∀ o, H0.length ≤ o → μ0 o = none) (hl : Hg.length = H0.length)
    (hgs : ∀ o, gs o = true → μ o = some (.slice none 0 0)) (hids : idsOK H0.length sl Hg s.df = true) (h : impE gs s.e sl (impH gs s.H Hg k)) : ∃ μ', RelSt r N B S w μ' ⟨envOf sl, Hg, s.df⟩ a ∧ Tr S0 w0 μ0 (hget H0) S w μ' (hget Hg) ∧ k := by
  obtain ⟨hr, he, hN, hdf, hro⟩ := hst
  simp only [idsOK, Bool.and_eq_true] at hids
  obtain ⟨he', h⟩ := impE_sound hgs he h
  obtain ⟨g1, g2, g3⟩ := impH_sound hgs (S := S) (w := w) (μ := μ) (fun o ob ho => let ⟨mv, _, h⟩ := hr.1.obs o ob ho; ⟨mv, h⟩) h
  have hcut : ∀ o, o < Hg.length → cutM H0.length μ o = μ o := fun o ho => cutM_le (by omega)
  have hlt : ∀ {o ob}, hget Hg o = some ob → o < Hg.length := fun h => lt_of_hget h
  have hold : ∀ {o ob'}, hget Hg o = some ob' → ∃ ob, hget s.H o = some ob ∧ ∀ mv, ObR S w μ mv ob → ObR S w μ mv ob' := fun {o ob'} ho => by
    have := g2 o (hlt ho)
    rw [ho] at this
    exact this
  have hrow : ∀ {o cs}, hget Hg o = some (.row cs) → cs.all (idb 4 H0.length) = true := fun {o cs} ho => by
    have hlt := hlt ho
    have : Hg[o]? = some (some (.row cs)) := by
      unfold hget at ho
      rw [List.getD_eq_getElem?_getD, List.getElem?_eq_getElem hlt] at ho
      rw [List.getElem?_eq_getElem hlt]
      simpa using ho
    exact List.all_eq_true.1 hids.1.2 _ (List.mem_of_getElem? this)
  have hob : ∀ {o ob mv}, hget Hg o = some ob → ObR S w μ mv ob → ObR S w (cutM H0.length μ) mv ob := fun {o ob mv} ho h => by
    cases ob with
    | row cs =>
      obtain ⟨b, cells, T, h1, h2, h3, h4, h5⟩ := h
      have := hrow ho
      exact ⟨b, cells, T, h1, h2, h3, fun i d v x y => idb_R 4 _ (List.all_eq_true.1 this d (List.mem_of_getElem? x)) (h4 i d v x y), h5⟩
    | buf e s n g => exact h
    | mp m => exact h
    | lp l p => exact h
    | dead => exact h
  have hdfc : DfR B S w (cutM H0.length μ) (hget Hg) s.df a.defers := by
    have h3 := hids.2
    cases hsd : s.df with
    | none => trivial
    | some df =>
      rw [hsd] at hdf h3
      have hdf2 : DfL B S w μ (hget s.H) df a.defers := hdf
      have h4 : df.all (idb 4 H0.length) = true := h3
      clear hdf h3
      show DfL B S w (cutM H0.length μ) (hget Hg) df a.defers
      clear hsd hids
      generalize a.defers = ds at hdf2
      induction hdf2 with
      | nil => exact .nil
      | fn f fs cs vf vc h1 _ ih =>
        simp only [List.all_cons, Bool.and_eq_true] at h4
        exact .fn f fs cs vf vc (idb_R 4 _ h4.1 h1) (ih h4.2)
      | mark b D h0 h1 h2 h3' h4' h5 h6 _ ih =>
        refine .mark b D h0 h1 h2 h3' h4' (fun o ob v ho hv => ?_) h6 (ih h4)
        rw [hcut o (hlt ho)] at hv
        obtain ⟨ob0, e1, _⟩ := hold ho
        exact h5 o ob0 v e1 hv
  refine ⟨cutM H0.length μ, ⟨⟨⟨fun o ob ho => ?_, fun o o' ob ob' v v' b h1 h2 hne m1 m2 => ?_, fun b hb => ⟨(hr.1.stat b hb).1, fun o ob v ho hv => ?_⟩⟩, fun o ho => ?_⟩, fun j => idb_R 4 _ (envOf_ids hids.1.1 j) (he' j), hN, hdfc, hro⟩,
    ⟨t.os, t.tape, t.output, t.size, t.block, t.sub, t.new, fun o v hv => ?_, fun o ob v b ho hv hb => ?_, fun o v h1 h2 => ?_, fun o ho => ?_⟩, g3⟩
  · obtain ⟨ob0, h1, h2⟩ := hold ho
    obtain ⟨mv, m1, m2⟩ := hr.1.obs o ob0 h1
    exact ⟨mv, by rw [hcut o (hlt ho)]; exact m1, hob ho (h2 mv m2)⟩
  · rw [hcut o (hlt h1)] at m1
    rw [hcut o' (hlt h2)] at m2
    obtain ⟨ob0, e1, _⟩ := hold h1
    obtain ⟨ob0', e2, _⟩ := hold h2
    exact hr.1.sep o o' ob0 ob0' v v' b e1 e2 hne m1 m2
  · rw [hcut o (hlt ho)] at hv
    obtain ⟨ob0, e1, _⟩ := hold ho
    exact (hr.1.stat b hb).2 o ob0 v e1 hv
  · have : ¬ o < H0.length := by simp only at ho; omega
    simp [cutM, this]
  · have hlt : o < H0.length := by
      rcases Nat.lt_or_ge o H0.length with h1 | h1
      · exact h1
      · rw [h0 o h1] at hv; cases hv
    obtain ⟨v', h1, h2⟩ := t.mu o v hv
    exact ⟨v', by rw [cutM_le hlt]; exact h1, h2⟩
  · rw [hcut o (hlt ho)] at hv
    obtain ⟨ob0, e1, _⟩ := hold ho
    exact t.blks o ob0 v b e1 hv hb
  · have hlt : o < H0.length := by
      rcases Nat.lt_or_ge o H0.length with h1 | h1
      · exact h1
      · rw [h0 o h1] at h2; cases h2
    obtain ⟨k1, k2⟩ := t.off o v h1 h2
    refine ⟨?_, by rw [cutM_le hlt]; exact k2⟩
    cases hx : hget Hg o with
    | none => rfl
    | some ob' => obtain ⟨ob, e1, _⟩ := hold hx; rw [k1] at e1; cases e1
  · have hlt : o < H0.length := by
      rcases Nat.lt_or_ge o H0.length with h1 | h1
      · exact h1
      · have : ¬ o < H0.length := by omega
        simp [cutM, this] at ho
    rw [cutM_le hlt] at ho
    rcases t.dom o ho with h1 | h1
    · refine .inl fun hx => ?_
      have := g2 o (by omega)
      rw [hx] at this
      exact h1 this
    · exact .inr h1
def Frz (S : Nat → Prop) (μ : Mu) (H : HL) (n : Nat) (b : Nat) : Prop := S b ∨ ∃ o ob v, hget H o = some ob ∧ n ≤ o ∧ μ o = some v ∧ blk v = some b
theorem frz_tr (n : Nat) (H : HL) : Tr S w μ (hget H) (Frz S μ H n) w μ (hget H) :=
  ⟨rfl, rfl, rfl, Nat.le_refl _, fun _ _ _ => rfl, fun _ h => .inl h, fun b h => h.imp id fun ⟨o, ob, v, h1, _, h3, h4⟩ => .inr ⟨o, ob, v, h1, h3, h4⟩, .refl _, fun o ob v b h1 h2 h3 => .inr ⟨o, ob, v, h1, h2, h3⟩, fun o v h1 h2 => ⟨h1, h2⟩, dom_refl⟩
theorem frzD_sound {H : HL} {n : Nat} (hr : RelL S w μ H) {x d : D} {v : Value} (hx : R S w μ x v) {k : Prop} (h : frzD n H x d k) : R (Frz S μ H n) w μ d v ∧ k := by
  have old : impA noGh x d k → R (Frz S μ H n) w μ d v ∧ k := fun h =>
    let ⟨g1, g2⟩ := impA_sound (gs := noGh) (fun o ho => by cases ho) h hx
    ⟨g1.tr hr.1 (frz_tr n H), g2⟩
  unfold frzD at h
  cases d with
  | eptr c g =>
    cases hx with
    | ptr o off b hm =>
      simp only at h
      cases ho : hget H o with
      | none => rw [ho] at h; exact h.elim
      | some ob =>
        rw [ho] at h
        cases ob with
        | row cs =>
          simp only at h
          cases hq : ((Nat.ble n o && Nat.beq off 0) && (Nat.beq cs.length c && cs.all noRef1)) with
          | false => rw [hq] at h; exact h.elim
          | true =>
            rw [hq, cond_true] at h
            simp only [Bool.and_eq_true] at hq
            obtain ⟨⟨q1, q2⟩, q3, q4⟩ := hq
            have q1 := Nat.le_of_ble_eq_true q1
            obtain rfl := Nat.eq_of_beq_eq_true q2
            obtain rfl := Nat.eq_of_beq_eq_true q3
            obtain ⟨h1, h2⟩ := h
            obtain ⟨mv, m1, b', cells, T, e, hheap, hlen, hcs, hone⟩ := hr.1.obs o _ ho
            rw [hm] at m1
            injection m1 with m1
            subst m1
            injection e with e
            injection e with e
            injection e with e
            subst e
            refine ⟨.eptr _ _ b 0 (fun j => cells.getD j undef) (.inr ⟨o, _, _, ho, q1, hm, rfl⟩) (fun j hj => ?_) (fun j hj => ?_), h2⟩
            · have hlt : j < cells.size := by omega
              refine ⟨?_, ?_⟩
              · rw [Nat.zero_add, row_cell hheap]
                simp [Array.getD, hlt]
              · exact hone j _ (by simp [Array.getD, hlt])
            · have hlt : j < cells.size := by omega
              rw [← h1 j hj]
              have hg : cs.getD j .top = cs[j] := by simp [List.getElem?_eq_getElem hj]
              rw [hg]
              have := hcs j cs[j] (cells.getD j undef) (by simp [hj]) (by simp [Array.getD, hlt])
              have h0 := noRef1_R this (List.all_eq_true.1 q4 _ (List.getElem_mem hj))
              exact h0.keep (fun _ hb => .inl hb) (fun _ _ => rfl) (.refl _)
        | _ => exact h.elim
    | _ => exact old h
  | _ => exact old h
theorem impEf_sound {H : HL} {n : Nat} (hr : RelL S w μ H) {e : Env} {a : Act} (he : EnvR S w μ e a) : ∀ {sl : List (Nat × D)} {k : Prop}, impEf n H e sl k → EnvR (Frz S μ H n) w μ (envOf sl) a ∧ k
  | [], k, h => ⟨fun j => .top _, h⟩
  | (i, d) :: r, k, h => by
    have h : frzD n H (e i) d (impEf n H e r k) := h
    obtain ⟨g1, g2⟩ := frzD_sound hr (he i) h
    obtain ⟨g3, g4⟩ := impEf_sound hr he g2
    refine ⟨fun j => ?_, g4⟩
    simp only [envOf]
    cases hj : Nat.beq j i with
    | true => obtain rfl := Nat.eq_of_beq_eq_true hj; exact g1
    | false => exact g3 j
theorem cut_state_f {a : Act} {s : St} {sl : List (Nat × D)} {Hg H0 : HL} {S0 : Nat → Prop} {w0 : World} {μ0 : Mu} {k : Prop} (hst : RelSt r N B S w μ s a) (t : Tr S0 w0 μ0 (hget H0) S w μ (hget s.H)) (h0 : ∀ o, H0.length ≤ o → μ0 o = none) (hl : Hg.length = H0.length)
    (hids : idsOK H0.length sl Hg s.df = true) (h : impEf Hg.length s.H s.e sl (impH noGh s.H Hg k)) : ∃ S1 μ', RelSt r N B S1 w μ' ⟨envOf sl, Hg, s.df⟩ a ∧ Tr S0 w0 μ0 (hget H0) S1 w μ' (hget Hg) ∧ k := by
  obtain ⟨hr, he, hN, hdf, hro⟩ := hst
  have hgs : ∀ o, noGh o = true → μ o = some (.slice none 0 0) := fun o ho => by cases ho
  have t1 := frz_tr (S := S) (w := w) (μ := μ) Hg.length s.H
  have t := t.trans t1
  simp only [idsOK, Bool.and_eq_true] at hids
  obtain ⟨he', h⟩ := impEf_sound hr he h
  have hdf := hdf.tr hr.1 t1
  obtain ⟨g1, g2, g3⟩ := impH_sound hgs (S := S) (w := w) (μ := μ) (fun o ob ho => let ⟨mv, _, h⟩ := hr.1.obs o ob ho; ⟨mv, h⟩) h
  have st : ∀ b, Frz S μ s.H Hg.length b → b < w.heap.size ∧ ∀ o ob v, o < Hg.length → hget s.H o = some ob → μ o = some v → blk v ≠ some b := fun b hb => by
    rcases hb with hb | ⟨o1, ob1, v1, e1, e2, e3, e4⟩
    · exact ⟨(hr.1.stat b hb).1, fun o ob v _ => (hr.1.stat b hb).2 o ob v⟩
    · obtain ⟨mv, m1, m2⟩ := hr.1.obs o1 ob1 e1
      rw [e3] at m1
      injection m1 with m1
      subst m1
      exact ⟨m2.blk_lt e4, fun o ob v hlt ho hv => hr.1.sep o1 o ob1 ob v1 v b e1 ho (by omega) e3 hv e4⟩
  have hcut : ∀ o, o < Hg.length → cutM H0.length μ o = μ o := fun o ho => cutM_le (by omega)
  have hlt : ∀ {o ob}, hget Hg o = some ob → o < Hg.length := fun h => lt_of_hget h
  have hold : ∀ {o ob'}, hget Hg o = some ob' → ∃ ob, hget s.H o = some ob ∧ ∀ mv, ObR S w μ mv ob → ObR S w μ mv ob' := fun {o ob'} ho => by
    have := g2 o (hlt ho)
    rw [ho] at this
    exact this
  have hrow : ∀ {o cs}, hget Hg o = some (.row cs) → cs.all (idb 4 H0.length) = true := fun {o cs} ho => by
    have hlt := hlt ho
    have : Hg[o]? = some (some (.row cs)) := by
      unfold hget at ho
      rw [List.getD_eq_getElem?_getD, List.getElem?_eq_getElem hlt] at ho
      rw [List.getElem?_eq_getElem hlt]
      simpa using ho
    exact List.all_eq_true.1 hids.1.2 _ (List.mem_of_getElem? this)
  have hob : ∀ {o ob mv}, hget Hg o = some ob → ObR S w μ mv ob → ObR (Frz S μ s.H Hg.length) w (cutM H0.length μ) mv ob := fun {o ob mv} ho h => by
    have h := ObR.keep (S' := Frz S μ s.H Hg.length) h (fun _ hb => .inl hb) (fun _ _ => rfl) (.refl _) (fun _ _ => rfl)
    cases ob with
    | row cs =>
      obtain ⟨b, cells, T, h1, h2, h3, h4, h5⟩ := h
      have := hrow ho
      exact ⟨b, cells, T, h1, h2, h3, fun i d v x y => idb_R 4 _ (List.all_eq_true.1 this d (List.mem_of_getElem? x)) (h4 i d v x y), h5⟩
    | buf e s n g => exact h
    | mp m => exact h
    | lp l p => exact h
    | dead => exact h
  have hdfc : DfR B (Frz S μ s.H Hg.length) w (cutM H0.length μ) (hget Hg) s.df a.defers := by
    have h3 := hids.2
    cases hsd : s.df with
    | none => trivial
    | some df =>
      rw [hsd] at hdf h3
      have hdf2 : DfL B (Frz S μ s.H Hg.length) w μ (hget s.H) df a.defers := hdf
      have h4 : df.all (idb 4 H0.length) = true := h3
      clear hdf h3
      show DfL B (Frz S μ s.H Hg.length) w (cutM H0.length μ) (hget Hg) df a.defers
      clear hsd hids
      generalize a.defers = ds at hdf2
      induction hdf2 with
      | nil => exact .nil
      | fn f fs cs vf vc h1 _ ih =>
        simp only [List.all_cons, Bool.and_eq_true] at h4
        exact .fn f fs cs vf vc (idb_R 4 _ h4.1 h1) (ih h4.2)
      | mark b D h0 h1 h2 h3' h4' h5 h6 _ ih =>
        refine .mark b D h0 h1 h2 h3' h4' (fun o ob v ho hv => ?_) h6 (ih h4)
        rw [hcut o (hlt ho)] at hv
        obtain ⟨ob0, e1, _⟩ := hold ho
        exact h5 o ob0 v e1 hv
  refine ⟨Frz S μ s.H Hg.length, cutM H0.length μ, ⟨⟨⟨fun o ob ho => ?_, fun o o' ob ob' v v' b h1 h2 hne m1 m2 => ?_, fun b hb => ⟨(st b hb).1, fun o ob v ho hv => ?_⟩⟩, fun o ho => ?_⟩, fun j => idb_R 4 _ (envOf_ids hids.1.1 j) (he' j), hN, hdfc, hro⟩,
    ⟨t.os, t.tape, t.output, t.size, t.block, t.sub, t.new, fun o v hv => ?_, fun o ob v b ho hv hb => ?_, fun o v h1 h2 => ?_, fun o ho => ?_⟩, g3⟩
  · obtain ⟨ob0, h1, h2⟩ := hold ho
    obtain ⟨mv, m1, m2⟩ := hr.1.obs o ob0 h1
    exact ⟨mv, by rw [hcut o (hlt ho)]; exact m1, hob ho (h2 mv m2)⟩
  · rw [hcut o (hlt h1)] at m1
    rw [hcut o' (hlt h2)] at m2
    obtain ⟨ob0, e1, _⟩ := hold h1
    obtain ⟨ob0', e2, _⟩ := hold h2
    exact hr.1.sep o o' ob0 ob0' v v' b e1 e2 hne m1 m2
  · rw [hcut o (hlt ho)] at hv
    obtain ⟨ob0, e1, _⟩ := hold ho
    exact (st b hb).2 o ob0 v (hlt ho) e1 hv
  · have : ¬ o < H0.length := by simp only at ho; omega
    simp [cutM, this]
  · have hlt : o < H0.length := by
      rcases Nat.lt_or_ge o H0.length with h1 | h1
      · exact h1
      · rw [h0 o h1] at hv; cases hv
    obtain ⟨v', h1, h2⟩ := t.mu o v hv
    exact ⟨v', by rw [cutM_le hlt]; exact h1, h2⟩
  · rw [hcut o (hlt ho)] at hv
    obtain ⟨ob0, e1, _⟩ := hold ho
    exact t.blks o ob0 v b e1 hv hb
  · have hlt : o < H0.length := by
      rcases Nat.lt_or_ge o H0.length with h1 | h1
      · exact h1
      · rw [h0 o h1] at h2; cases h2
    obtain ⟨k1, k2⟩ := t.off o v h1 h2
    refine ⟨?_, by rw [cutM_le hlt]; exact k2⟩
    cases hx : hget Hg o with
    | none => rfl
    | some ob' => obtain ⟨ob, e1, _⟩ := hold hx; rw [k1] at e1; cases e1
  · have hlt : o < H0.length := by
      rcases Nat.lt_or_ge o H0.length with h1 | h1
      · exact h1
      · have : ¬ o < H0.length := by omega
        simp [cutM, this] at ho
    rw [cutM_le hlt] at ho
    rcases t.dom o ho with h1 | h1
    · refine .inl fun hx => ?_
      have := g2 o (by omega)
      rw [hx] at this
      exact h1 this
    · exact .inr h1
theorem add_ghosts : ∀ (gh : List (Nat × Nat)) {μ : Mu} {H : HL}, RelL S w μ H → ∃ μ', RelL S w μ' (H ++ ghosts gh) ∧ Tr S w μ (hget H) S w μ' (hget (H ++ ghosts gh)) ∧ ∀ o, isGh H.length gh.length o = true → μ' o = some (.slice none 0 0)
  | [], μ, H, hr => ⟨μ, by simpa [ghosts] using hr, by simpa [ghosts] using Tr.refl S w μ (hget H), fun o ho => by
    simp only [isGh, Bool.and_eq_true, blt_iff, Nat.ble_eq] at ho; simp at ho; omega⟩
  | p :: gh, μ, H, hr => by
    obtain ⟨h1, h2, h3⟩ := new_nil hr (hr.2 _ (Nat.le_refl _)) (Nat.le_refl _) p.1 p.2 (fun _ _ => D.top)
    have e : hnew H H.length (.buf p.1 p.2 0 fun _ _ => .top) = H ++ [some (.buf p.1 p.2 0 fun _ _ => .top)] := by
      unfold hnew
      have : Nat.blt H.length H.length = false := by
        cases hb : Nat.blt H.length H.length with
        | false => rfl
        | true => have := (blt_iff _ _).1 hb; omega
      rw [this]; rfl
    rw [e] at h1 h2
    obtain ⟨μ', g1, g2, g3⟩ := add_ghosts gh h1
    have e2 : (H ++ [some (Ob.buf p.1 p.2 0 fun _ _ => .top)]) ++ ghosts gh = H ++ ghosts (p :: gh) := by simp [ghosts]
    rw [e2] at g1 g2
    refine ⟨μ', g1, h2.trans g2, fun o ho => ?_⟩
    simp only [isGh, Bool.and_eq_true, blt_iff, Nat.ble_eq, List.length_cons] at ho
    rcases Nat.eq_or_lt_of_le ho.1 with rfl | hlt
    · obtain ⟨v', k1, k2⟩ := g2.mu H.length (.slice none 0 0) (by simp [updM])
      rcases k2 with rfl | ⟨A, m, c, A', m', c', e1, rfl, hlt⟩ | ⟨r, ks, ys, e1, _⟩
      · exact k1
      · have hg := g1.1.obs H.length (.buf p.1 p.2 0 fun _ _ => .top) (by simp [hget, ghosts])
        obtain ⟨mv, m1, xs, m2, _⟩ := hg
        rw [k1] at m1
        injection m1 with m1
        rcases m2.2 with ⟨rfl, _⟩ | ⟨b, cap, cur, fz, rfl, _⟩
        · rw [k1, m1]
        · injection m1 with _ m1 _; omega
      · cases e1
    · exact g3 o (by simp only [isGh, Bool.and_eq_true, blt_iff, Nat.ble_eq]; simp; omega)
end
end Go.V
end
section
namespace Go.V
section
variable {P : Program} {C : Cx} {T : RT} {N : Nat} {S : Nat → Prop} {w : World} {μ : Mu} {B : Option Nat} {H : HL}
theorem turn_lp (hr : RelL S w μ H) {o l : Nat} {r0 : Loop} {p p' : Pj} {x x' : Loop} (ho : hget H o = some (.lp r0 p)) (hm : μ o = some (.func (.yield l) #[] #[])) (hl : w.heap[l]? = some (.loop x)) (hx : lpR r0 p' x') :
    RelL S (w.putObj l (.loop x')) μ (H.set o (some (.lp r0 p'))) ∧ Tr S w μ (hget H) S (w.putObj l (.loop x')) μ (hget (H.set o (some (.lp r0 p')))) := by
  have hoid := lt_of_hget ho
  have hlt := (Array.getElem?_eq_some_iff.1 hl).1
  have hput := hr.1.put (o := o) (ob := .lp r0 p') (mv := .func (.yield l) #[] #[]) (w' := w.putObj l (.loop x')) rfl rfl rfl (by simp)
    (fun b hb' hno => World.putObj_heap_other (fun e => hno _ _ ho hm (by simp [blk, e])))
    (fun v hv => by rw [hm] at hv; injection hv with hv; subst hv; exact .refl _)
    (fun b hb' => .inr ⟨_, _, ho, hm, hb'⟩)
    ⟨l, x', rfl, World.putObj_heap_same hlt, hx⟩ (fun e => by rw [ho] at e; cases e)
  have hupd : updM μ o (.func (.yield l) #[] #[]) = μ := by
    funext o'
    unfold updM
    split
    · rename_i h; rw [h, hm]
    · rfl
  rw [hupd] at hput
  rw [hget_set _ _ _ hoid]
  exact ⟨⟨by rw [hget_set _ _ _ hoid]; exact hput.1, fun o' ho' => hr.2 o' (by simpa using ho')⟩, hput.2⟩
theorem lp_at (hr : RelL S w μ H) {o l : Nat} {r0 : Loop} {p : Pj} (ho : hget H o = some (.lp r0 p)) (hm : μ o = some (.func (.yield l) #[] #[])) : ∃ x, w.heap[l]? = some (.loop x) ∧ lpR r0 p x := by
  obtain ⟨mv, h1, l', x, h2, h3, h4⟩ := hr.1.obs o _ ho
  rw [hm] at h1
  injection h1 with h1
  rw [← h1] at h2
  injection h2 with h2
  injection h2 with h2
  subst h2
  exact ⟨x, h3, h4⟩
theorem mark_keep {μ μ' : Mu} (h : MuLe μ μ') {o l : Nat} (hm : μ o = some (.func (.yield l) #[] #[])) : μ' o = some (.func (.yield l) #[] #[]) := by
  obtain ⟨v', h1, h2⟩ := h o _ hm
  rcases h2 with rfl | ⟨A, m, c, A', m', c', e, _⟩ | ⟨r, ks, ys, e, _⟩
  · exact h1
  · cases e
  · injection e with e; cases e
theorem lpIs_iff {ol : Nat} {r0 : Loop} {p : Pj} {k : Prop} (h : lpIs H ol r0 p k) : hget H ol = some (.lp r0 p) ∧ k := by
  unfold lpIs at h
  split at h
  · rename_i r q ho
    obtain ⟨⟨rfl, rfl⟩, hk⟩ := h
    exact ⟨ho, hk⟩
  · exact h.elim
theorem bind_env {tmps : Array Value} (hN : tmps.size = N) : ∀ (ps : List Nat) (ds : List D) (vs : List Value) (e : Env) (k : Env → Prop) (a : Array Value), a.size = N → EnvR S w μ e { tmps := a, defers := [] } → RL S w μ ds vs → bindE N ps ds e k →
    ∃ e1, k e1 ∧ EnvR S w μ e1 { tmps := (ps.zip vs).foldl (fun t (x : Nat × Value) => t.setIfInBounds x.1 x.2) a, defers := [] } ∧ ((ps.zip vs).foldl (fun t (x : Nat × Value) => t.setIfInBounds x.1 x.2) a).size = N ∧ ps.length = vs.length
  | [], [], vs, e, k, a, ha, he, hr, h => by
    have : vs = [] := by have := hr.1; simpa using this.symm
    subst this
    exact ⟨e, h, he, ha, rfl⟩
  | [], d :: ds, vs, e, k, a, ha, he, hr, h => h.elim
  | p :: ps, [], vs, e, k, a, ha, he, hr, h => h.elim
  | p :: ps, d :: ds, [], e, k, a, ha, he, hr, h => by have := hr.1; simp at this
  | p :: ps, d :: ds, v :: vs, e, k, a, ha, he, hr, h => by
    have h : (bif Nat.blt p N then bindE N ps ds (upd e p d) k else False) := h
    cases hq : Nat.blt p N with
    | false => rw [hq] at h; exact h.elim
    | true =>
      rw [hq, cond_true] at h
      obtain ⟨hd, hr'⟩ := hr.cons_inv
      have hp := (blt_iff _ _).1 hq
      have he' : EnvR S w μ (upd e p d) { tmps := a.setIfInBounds p v, defers := [] } := fun j => by
        simp only [V.upd]
        cases hj : Nat.beq j p with
        | true =>
          obtain rfl := Nat.eq_of_beq_eq_true hj
          simp only [cond_true]
          have : j < a.size := by omega
          simpa [Array.getD, this] using hd
        | false =>
          have hne : p ≠ j := fun e => by subst e; rw [Nat.beq_refl] at hj; cases hj
          simp only [cond_false]
          have := he j
          rw [Array.getD_eq_getD_getElem?] at this ⊢
          rwa [Array.getElem?_setIfInBounds_ne hne]
      obtain ⟨e1, g1, g2, g3, g4⟩ := bind_env hN ps ds vs _ k _ (by simpa using ha) he' hr' h
      exact ⟨e1, g1, g2, g3, by simp [g4]⟩
def Sound (P : Program) (T : RT) (N : Nat) (B : Option Nat) (c : Code) (v : VK) : Prop :=
  ∀ (r : Option Nat) (n : Nat) (K : VX → St → Prop) (s : St) (S : Nat → Prop) (w : World) (μ : Mu) (a : Act), RelSt r N B S w μ s a → (∀ b, B = some b → b ≤ w.heap.size) → T S w μ (hget s.H) → v K s → c.wpIn (FW r) n P (PostC S w μ (hget s.H) r N B K) a w
theorem yield_sound (hT : RTok T) {asg body : Code} {va vb : VK} (ha : Sound P T N B asg va) (hb : Sound P T N B body vb) {ps : Array Nat} {e : Env} {a0 : Array Value} {S0 : Nat → Prop} {w0 : World} {μ0 : Mu} {H0 : Hp} {ol l fn : Nat} {dd : Nat}
    (hN : a0.size = N) (he : EnvR S0 w0 μ0 e { tmps := a0, defers := [] }) (hr0 : Rel S0 w0 μ0 H0) (ht0 : T S0 w0 μ0 H0) (hb0 : ∀ b, B = some b → b ≤ w0.heap.size) (hm0 : μ0 ol = some (.func (.yield l) #[] #[]))
    {r0 : Loop} (hrec : r0 = { state := .ready, pending := none, fn := fn, tmps := a0, params := ps, assign := asg, body := body, defers := dd }) :
    YSound P (fun S w μ H => Tr S0 w0 μ0 H0 S w μ H) ol (vcYield N ol e r0 ps.toList va vb) := by
  intro ds H K h S w μ vs hTr hr hRL l' hl'
  have hm := mark_keep hTr.mu hm0
  rw [hm] at hl'
  simp only [Option.some.injEq, Value.func.injEq, Fn.yield.injEq, and_true] at hl'
  subst hl'
  obtain ⟨hlp, h⟩ := lpIs_iff h
  obtain ⟨x, hx, hxr⟩ := lp_at hr hlp hm
  have hxe : x = r0 := by rw [hxr, hrec]
  subst hxe
  have he1 : EnvR S w μ e { tmps := a0, defers := [] } := fun j => (he j).tr hr0 hTr
  obtain ⟨e1, h1, h2, h3, h4⟩ := bind_env hN ps.toList ds vs e _ a0 hN he1 hRL h
  have hfold : (ps.zip vs.toArray).foldl (fun t (x : Nat × Value) => t.setIfInBounds x.1 x.2) a0 = (ps.toList.zip vs).foldl (fun t (x : Nat × Value) => t.setIfInBounds x.1 x.2) a0 := by
    rw [← Array.foldl_toList, Array.toList_zip]
  have hy := run_yield (P := P) (args := vs.toArray) hx (by rw [hrec]; simp [← h4])
  have htw : T S w μ (hget H) := hT _ _ _ _ _ _ _ _ ht0 hTr
  have hbw : ∀ b, B = some b → b ≤ w.heap.size := fun b e => Nat.le_trans (hb0 b e) hTr.size
  refine ⟨_, _, _, _, hy, fun n => ?_⟩
  rw [hrec]
  simp only
  refine roundIn_of_wpIn (F := FW none) trivial ?_
  show asg.wpIn (FW (some l)) n P _ _ w
  rw [hfold]
  have hst : RelSt (some l) N B S w μ ⟨e1, H, none⟩ { tmps := (ps.toList.zip vs).foldl (fun t (x : Nat × Value) => t.setIfInBounds x.1 x.2) a0, defers := [] } := ⟨hr, h2, h3, trivial, .inr rfl⟩
  refine wpIn_mono (ha (some l) n _ ⟨e1, H, none⟩ S w μ _ hst hbw htw h1) ?_
  rintro x a1 w1 ⟨S1, μ1, s1, x1, k1, k2, k3, k4⟩
  cases x1 <;> simp only [lpBody] at k1
  cases x <;> try exact k2.elim
  obtain ⟨hl1, k1⟩ := lpIs_iff k1
  have hm1 := mark_keep k4.mu hm
  obtain ⟨y1, hy1, hyr1⟩ := lp_at k3.rel hl1 hm1
  obtain ⟨t1, t2⟩ := turn_lp (p' := .busy) k3.rel hl1 hm1 hy1 (x' := { y1 with state := .busy }) (by rw [hyr1]; rfl)
  refine ⟨w1.putObj l (.loop { y1 with state := .busy }), run_beginRound hy1 (by rw [hyr1]), ?_⟩
  show body.wpIn (FW (some l)) n P _ _ _
  have hst1 : RelSt (some l) N B S1 (w1.putObj l (.loop { y1 with state := .busy })) μ1 ⟨s1.e, s1.H.set ol (some (.lp _ .busy)), none⟩ a1 := ⟨t1, fun j => (k3.env j).tr k3.rel.1 t2, k3.size, trivial, .inr rfl⟩
  refine wpIn_mono (hb (some l) n _ _ S1 _ μ1 _ hst1 (fun b e => Nat.le_trans (hbw b e) (k4.trans t2).size) (hT _ _ _ _ _ _ _ _ htw (k4.trans t2)) k1) ?_
  rintro x2 a2 w2 ⟨S2, μ2, s2, x3, q1, q2, q3, q4⟩
  have hm2 := mark_keep q4.mu hm1
  have tr2 := (k4.trans t2).trans q4
  cases x3 with
  | panic d => exact q1.elim
  | normal =>
    cases x2 <;> try exact q2.elim
    obtain ⟨hl2, q1⟩ := lpIs_iff q1
    obtain ⟨y2, hy2, hyr2⟩ := lp_at q3.rel hl2 hm2
    obtain ⟨u1, u2⟩ := turn_lp (p' := .ready) q3.rel hl2 hm2 hy2 (x' := { y2 with state := if (none : Option Code).isNone then .ready else .done, pending := none }) (by rw [hyr2]; rfl)
    exact ⟨_, _, run_endRound none hy2, S2, μ2, .ret .tt, _, q1, .tt, u1, tr2.trans u2⟩
  | ret =>
    cases x2 <;> try exact q2.elim
    obtain ⟨hl2, q1⟩ := lpIs_iff q1
    obtain ⟨y2, hy2, hyr2⟩ := lp_at q3.rel hl2 hm2
    obtain ⟨u1, u2⟩ := turn_lp (p' := .ret) q3.rel hl2 hm2 hy2 (x' := { y2 with state := if (some Code.ret).isNone then .ready else .done, pending := some .ret }) (by rw [hyr2]; rfl)
    exact ⟨_, _, run_endRound (some .ret) hy2, S2, μ2, .ret .ff, _, q1, .ff, u1, tr2.trans u2⟩
  | exit i =>
    cases x2 <;> try exact q2.elim
    rename_i i'
    have q2 : i = i' := q2
    subst q2
    obtain ⟨hl2, q1⟩ := lpIs_iff q1
    obtain ⟨y2, hy2, hyr2⟩ := lp_at q3.rel hl2 hm2
    obtain ⟨u1, u2⟩ := turn_lp (p' := .exit i) q3.rel hl2 hm2 hy2 (x' := { y2 with state := if (some (Code.exit i)).isNone then .ready else .done, pending := some (.exit i) }) (by rw [hyr2]; rfl)
    exact ⟨_, _, run_endRound (some (.exit i)) hy2, S2, μ2, .ret .ff, _, q1, .ff, u1, tr2.trans u2⟩
theorem sound_range (hC : CallsOK P C T) (hB : (∃ b, B = some b) ∨ ∀ g, C.iter g = none) {f : Operand} {ps : Array Tmp} {asg body : Code} {va vb : VK} (iha : Sound P T N B asg va) (ihb : Sound P T N B body vb) {r : Option Nat} {n : Nat} {K : VX → St → Prop} {s : St} {a : Act}
    (hst : RelSt r N B S w μ s a) (hb : ∀ b, B = some b → b ≤ w.heap.size) (hT : T S w μ (hget s.H)) (h : vcRange C N f ps va vb K s) : (Code.rangeFunc f ps asg body).wpIn (FW r) n P (PostC S w μ (hget s.H) r N B K) a w := by
  rw [vcRange_eq] at h
  split at h
  · rename_i g fs cs hd
    split at h
    · rename_i it hit
      split at h
      · rename_i df hsd
        rw [fzh_iff] at h
        obtain ⟨hr, he, hN, hdf, hro⟩ := hst
        have hrn : r = none := hro.resolve_right (by rw [hsd]; exact fun e => by cases e)
        subst hrn
        obtain ⟨b, rfl⟩ : ∃ b, B = some b := hB.resolve_right (fun h => by rw [h g] at hit; cases hit)
        have hi := hC.iter g it hit
        have hf := he.ev f
        rw [hd] at hf
        generalize hvf : a.eval f = fv at hf
        refine wpIn_rangeFunc (F := FW none) fun fn _ => ?_
        cases hf with
        | fn _ _ _ vf vc hl1 hl2 hR1 hR2 =>
          obtain ⟨l, hl⟩ : ∃ l, l = w.heap.size + 1 := ⟨_, rfl⟩
          obtain ⟨r0, hrec⟩ : ∃ r0 : Loop, r0 = { state := .ready, pending := none, fn := fn, tmps := a.tmps, params := ps, assign := asg, body := body, defers := w.heap.size } := ⟨_, rfl⟩
          obtain ⟨w1, hw1⟩ : ∃ w1, w1 = (w.alloc (.deferred (some []))).alloc (.loop r0) := ⟨_, rfl⟩
          obtain ⟨μ1, hμ1⟩ : ∃ μ1, μ1 = updM μ s.H.length (.func (.yield l) #[] #[]) := ⟨_, rfl⟩
          obtain ⟨H1, hH1d⟩ : ∃ H1 : HL, H1 = s.H ++ [some (.lp r0 .ready)] := ⟨_, rfl⟩
          have hz := hr.2 s.H.length (Nat.le_refl _)
          have hsize1 : w1.heap.size = w.heap.size + 2 := by rw [hw1]; simp
          have hblk1 : ∀ b, b < w.heap.size → w1.heap[b]? = w.heap[b]? := fun b hb => by rw [hw1]; exact (RowKit.Below.heap_alloc _ _ b (by simp; omega)).trans (RowKit.Below.heap_alloc w _ b hb)
          have hl1' : w1.heap[l]? = some (.loop r0) := by
            have := World.alloc_heap_new (w.alloc (.deferred (some []))) (.loop r0)
            rw [hw1, hl]; simpa using this
          have hD1 : w1.heap[w.heap.size]? = some (.deferred (some [])) := by rw [hw1]; exact (RowKit.Below.heap_alloc _ _ _ (by simp)).trans (World.alloc_heap_new w _)
          have hput := hr.1.put (o := s.H.length) (ob := .lp r0 .ready) (mv := .func (.yield l) #[] #[]) (w' := w1) (by rw [hw1]; rfl) (by rw [hw1]; rfl) (by rw [hw1]; rfl) (by rw [hsize1]; omega) (fun b hb _ => hblk1 b hb)
            (fun v hv => by rw [hz] at hv; cases hv) (fun b hb => by simp only [blk, Option.some.injEq] at hb; exact .inl (by omega))
            ⟨l, r0, rfl, hl1', by rw [hrec]; rfl⟩ (fun _ => hz)
          have hH1 : hget H1 = updH (hget s.H) s.H.length (.lp r0 .ready) := by rw [hH1d]; exact hget_push _ _
          have hr1 : RelL S w1 μ1 H1 := ⟨by rw [hH1, hμ1]; exact hput.1, fun o ho => by
            rw [hH1d] at ho
            have : o ≠ s.H.length := by simp at ho; omega
            rw [hμ1]
            simp only [updM, this, if_false]
            exact hr.2 o (by simp at ho; omega)⟩
          have t1 : Tr S w μ (hget s.H) S w1 μ1 (hget H1) := by rw [hH1, hμ1]; exact hput.2
          have hm1 : μ1 s.H.length = some (.func (.yield l) #[] #[]) := by rw [hμ1]; simp [updM]
          have he1 : EnvR S w1 μ1 s.e a := fun j => (he j).tr hr.1 t1
          have hT1 := hC.step _ _ _ _ _ _ _ _ hT t1
          have hb1 : ∀ b', some b = some b' → b' ≤ w1.heap.size := fun b' e => Nat.le_trans (hb b' e) t1.size
          have hys := yield_sound (P := P) (T := T) (N := N) (B := some b) hC.step iha ihb (ps := ps) (e := s.e) (a0 := a.tmps) (S0 := S) (w0 := w1) (μ0 := μ1) (H0 := hget H1) (ol := s.H.length) (l := l) (fn := fn) (dd := w.heap.size) hN
            (fun j => he1 j) hr1.1 hT1 hb1 hm1 (r0 := r0) hrec
          have hRL : RL S w1 μ1 (fs ++ [.yld s.H.length] ++ cs) (vf ++ #[Value.func (.yield l) #[] #[]] ++ vc).toList := by
            have hR1' : ∀ (i : Nat) d v, fs[i]? = some d → vf[i]? = some v → R S w1 μ1 d v := fun i d v a b => (hR1 i d v a b).tr hr.1 t1
            have hR2' : ∀ (i : Nat) d v, cs[i]? = some d → vc[i]? = some v → R S w1 μ1 d v := fun i d v a b => (hR2 i d v a b).tr hr.1 t1
            refine ⟨by simp [hl1, hl2], fun i d v h1 h2 => ?_⟩
            simp only [Array.toList_append, List.append_assoc, List.singleton_append] at h1 h2
            rw [List.getElem?_append] at h1 h2
            simp only [Array.length_toList, hl1] at h1 h2
            split at h1
            · rename_i hlt
              rw [if_pos hlt] at h2
              exact hR1' i d v h1 (by simpa using h2)
            · rename_i hlt
              rw [if_neg hlt] at h2
              cases hq : i - vf.size with
              | zero =>
                rw [hq] at h1 h2
                simp at h1 h2
                subst h1; subst h2
                exact .yld _ l hm1
              | succ q =>
                rw [hq] at h1 h2
                exact hR2' q d v (by simpa using h1) (by simpa using h2)
          have hcalls := hi.calls s.H.length _ (fun S' w' μ' H' => Tr S w1 μ1 (hget H1) S' w' μ' H') (fun _ _ _ _ _ _ _ _ h1 h2 => Tr.trans h1 h2) hys _ _ _ (by have := h r0; rw [← hH1d] at this; exact this) S w1 μ1 _ (.refl ..) hr1 hRL
          rw [Array.toArray_toList] at hcalls
          have hmk : DfL (some b) S w1 μ1 (hget H1) df ({ target := .collected w.heap.size, args := #[] } :: a.defers) := by
            rw [hsd] at hdf
            have hdf : DfL (some b) S w μ (hget s.H) df a.defers := hdf
            refine .mark b w.heap.size rfl (hb b rfl) (by rw [hsize1]; omega) hD1 (fun hs => absurd (hr.1.stat _ hs).1 (by omega)) (fun o ob v ho hv hbv => ?_) (fun d hd e => ?_) (hdf.tr hr.1 t1)
            · rw [hH1] at ho
              by_cases e : o = s.H.length
              · subst e
                rw [hm1] at hv
                injection hv with hv
                subst hv
                rw [hl] at hbv; simp [blk] at hbv
              · simp only [updH, e, if_false] at ho
                rw [hμ1] at hv
                simp only [updM, e, if_false] at hv
                obtain ⟨mv, m1, m2⟩ := hr.1.obs o ob ho
                rw [hv] at m1; injection m1 with m1; subst m1
                exact absurd (m2.blk_lt hbv) (by omega)
            · exact absurd (hdf.marks d hd _ e) (by omega)
          have hen : (Instr.enterLoop fn a.tmps ps asg body none).run P w = .ok (l, [{ target := .collected w.heap.size, args := #[] }]) w1 := by rw [hw1, hl, hrec]; exact run_enterLoop_outer _ _ _ _ _
          have hres : (resolve a.eval (rangeCall f l) 0).run P w1 = .ok { target := .fn (.func g) vc, args := vf ++ #[Value.func (.yield l) #[] #[]] } w1 := by
            have hev : a.eval (.const (.func (.yield l) #[] #[])) = Value.func (.yield l) #[] #[] := rfl
            simp only [resolve, hvf, Deferred.ofValue, Sem.run_pure]
            simp [hev]
          have hinv : (invoke (.fn (.func g) vc) (vf ++ #[Value.func (.yield l) #[] #[]])).run P w1 = .ok (.enter g (vf ++ #[Value.func (.yield l) #[] #[]] ++ vc)) w1 := hi.enters _ _
          suffices hfin : CallsIn (FW none) (n - 1) P g (vf ++ #[Value.func (.yield l) #[] #[]] ++ vc) w1 (rangePost (FW none) n P l (PostC S w μ (hget s.H) none N (some b) K) { a with defers := [{ target := .collected w.heap.size, args := #[] }] ++ a.defers }) from
            ⟨l, _, w1, _, w1, g, _, w1, hen, hres, fun _ _ => trivial, hinv, fun h => absurd h Bool.false_ne_true, hfin⟩
          refine callsIn_FW.2 (Calls.mono hcalls ?_)
          rintro e' w2 ⟨S2, μ2, res, H2, k1, k2, k3, k4⟩
          have tt := t1.trans k4
          have hdf2 := hmk.tr hr1.1 k4
          have he2 : EnvR S2 w2 μ2 s.e { a with defers := [{ target := .collected w.heap.size, args := #[] }] ++ a.defers } := fun j => (he1 j).tr hr1.1 k4
          cases res with
          | pan d =>
            cases e' with
            | panicked ch =>
              simp only [lpOut_eq, fzh_iff] at k1
              exact ⟨S2, μ2, _, .panic d, k1, k2, ⟨k3, he2, hN, hdf2, .inl rfl⟩, tt⟩
            | _ => exact k2.elim
          | ret d =>
            cases e' with
            | returned v =>
              simp only [lpOut_eq] at k1
              have hm2 := mark_keep k4.mu hm1
              cases ho : hget H2 s.H.length with
              | none => rw [ho] at k1; exact k1.elim
              | some ob =>
                rw [ho] at k1
                cases ob <;> simp only at k1
                rename_i r2 p2
                obtain ⟨y, hy, hyr⟩ := lp_at k3 ho hm2
                have out : ∀ (x' : VX) (x : Exit), y.state ≠ .busy → K x' ⟨s.e, H2.set s.H.length (some (.lp r2 .gone)), some df⟩ → XR S2 (w2.putObj l (.loop { y with state := .exhausted })) μ2 x' x →
                    (Instr.endLoop l).run P w2 = .ok y.pending (w2.putObj l (.loop { y with state := .exhausted })) ∧ PostC S w μ (hget s.H) none N (some b) K x { a with defers := [{ target := .collected w.heap.size, args := #[] }] ++ a.defers } (w2.putObj l (.loop { y with state := .exhausted })) := fun x' x hb' hk hx => by
                  obtain ⟨u1, u2⟩ := turn_lp (p' := .gone) k3 ho hm2 hy (x' := { y with state := .exhausted }) trivial
                  exact ⟨run_endLoop hy hb', S2, μ2, _, x', hk, hx, ⟨u1, fun j => (he2 j).tr k3.1 u2, hN, hdf2.tr k3.1 u2, .inl rfl⟩, tt.trans u2⟩
                cases p2 <;> simp only [fzh_iff] at k1
                · obtain ⟨o1, o2⟩ := out .normal .normal (by rw [hyr]; simp) k1 trivial
                  refine ⟨_, _, o1, ?_⟩
                  rw [hyr]
                  rw [hyr] at o2
                  exact o2
                · obtain ⟨o1, o2⟩ := out .ret .ret (by rw [hyr]; simp) k1 trivial
                  refine ⟨_, _, o1, ?_⟩
                  rw [hyr]
                  rw [hyr] at o2
                  exact wpIn_ret o2
                · rename_i i
                  obtain ⟨o1, o2⟩ := out (.exit i) (.exit i) (by rw [hyr]; simp) k1 rfl
                  refine ⟨_, _, o1, ?_⟩
                  rw [hyr]
                  rw [hyr] at o2
                  exact wpIn_exit o2
            | _ => exact k2.elim
      · exact h.elim
    · exact h.elim
  · exact h.elim
theorem stepR_scope' {P : Program} {b : Frame} {a : Act} {k : List Item} {cs : List Frame} {w : World} {c : Code} : step P (lone (b.atR a (.code (.scope c) :: k)) cs w) = .next (lone (b.atR a (.code c :: .inScope c :: k)) cs w) :=
  step_lone_go (by simp [stepG, stepG.exec, Frame.atR])
theorem stepR_inScope' {P : Program} {b : Frame} {a : Act} {k : List Item} {cs : List Frame} {w : World} {c : Code} : step P (lone (b.atR a (.inScope c :: k)) cs w) = .next (lone (b.atR a k) cs w) :=
  step_lone_go (by simp [stepG, stepG.exec, Frame.atR])
theorem wpIn_scope' {F : Fence} {n : Nat} {P : Program} {Q : Exit → Act → World → Prop} {a : Act} {w : World} {c : Code} (h : c.wpIn F n P Q a w) (hng : ∀ l a w, ¬ Q (.goto l) a w) : (Code.scope c).wpIn F n P Q a w := by
  intro b k cs hro hb hr
  have h0 : (lone (b.atR a (.code (.scope c) :: k)) cs w).fenced P F := fenced_calm hb hr rfl
  obtain ⟨e, a₁, w₁, hq, harr⟩ := h b (.inScope c :: k) cs hro hb hr
  cases e with
  | normal => exact ⟨.normal, a₁, w₁, hq, .head h0 stepR_scope' (StepsIn.trans harr (.one (fenced_calm hb hr rfl) stepR_inScope'))⟩
  | exit id =>
    have hx : exitTo id (.inScope c :: k) = exitTo id k := by simp [exitTo]
    exact ⟨.exit id, a₁, w₁, hq, fun k' hk => .head h0 stepR_scope' (harr.1 k' (by rw [hx]; exact hk)),
      fun hr' hk => let ⟨k₁, h1, h2⟩ := harr.2 hr' (by rw [hx]; exact hk); ⟨k₁, h1, .head h0 stepR_scope' h2⟩⟩
  | goto l => exact (hng _ _ _ hq).elim
  | ret => exact ⟨_, a₁, w₁, hq, .of_steps (.one h0 stepR_scope') harr⟩
  | panic ch => exact ⟨_, a₁, w₁, hq, .of_steps (.one h0 stepR_scope') harr⟩
  | outgrown => exact ⟨_, a₁, w₁, hq, .of_steps (.one h0 stepR_scope') harr⟩
theorem sound_vc (hC : CallsOK P C T) (hB : (∃ b, B = some b) ∨ ∀ g, C.iter g = none) : ∀ (c : Code), Sound P T N B c (vc C N c) := by
  intro c
  induction c with
  | skip => exact fun r n K s S w μ a hst hb hT h => wpIn_skip ⟨S, μ, s, .normal, h, trivial, hst, .refl ..⟩
  | ret => exact fun r n K s S w μ a hst hb hT h => wpIn_ret ⟨S, μ, s, .ret, h, trivial, hst, .refl ..⟩
  | exit i => exact fun r n K s S w μ a hst hb hT h => wpIn_exit ⟨S, μ, s, .exit i, h, rfl, hst, .refl ..⟩
  | label l => exact fun r n K s S w μ a hst hb hT h => wpIn_label ⟨S, μ, s, .normal, h, trivial, hst, .refl ..⟩
  | scope x ih => exact fun r n K s S w μ a hst hb hT h => wpIn_scope' (ih r n K s S w μ a hst hb hT h) (fun l a w hq => by
      obtain ⟨S', μ', s', x', h1, h2, h3, h4⟩ := hq
      cases x' <;> exact h2.elim)
  | seq x y ihx ihy =>
    intro r n K s S w μ a hst hb hT h
    refine wpIn_seq (wpIn_mono (ihx r n _ s S w μ a hst hb hT h) (fun e a' w' hq => ?_))
    obtain ⟨S', μ', s', x', h1, h2, h3, h4⟩ := hq
    cases x' with
    | normal =>
      cases e <;> try exact h2.elim
      exact wpIn_mono (ihy r n K s' S' w' μ' a' h3 (fun b e => Nat.le_trans (hb b e) h4.size) (hC.step _ _ _ _ _ _ _ _ hT h4) h1) (fun e a w hq => PostC.from h4 hq)
    | _ => cases e <;> first | exact h2.elim | exact ⟨S', μ', s', _, h1, h2, h3, h4⟩
  | cond c x y ihx ihy =>
    intro r n K s S w μ a hst hb hT h
    have h : vcCond c (vc C N x) (vc C N y) K s := h
    rw [vcCond_eq] at h
    have he := hst.env
    have hc := he.ev c
    split at h
    · rename_i hd
      rw [hd] at hc
      generalize hv : a.eval c = v at hc
      cases hc
      exact wpIn_cond_true hv (ihx r n K s S w μ a hst hb hT h)
    · rename_i hd
      rw [hd] at hc
      generalize hv : a.eval c = v at hc
      cases hc
      exact wpIn_cond_false hv (ihy r n K s S w μ a hst hb hT h)
    · rename_i b hd
      rw [hd] at hc
      have hc' := hc
      generalize hv : a.eval c = v at hc'
      cases hc'
      have ref : ∀ d, R S w μ d (a.eval c) → RelSt r N B S w μ ⟨refE c s.e d, s.H, s.df⟩ a := fun d hR => ⟨hst.rel, by
        cases c with
        | tmp i => exact he.upd hR
        | _ => exact he, hst.size, hst.df, hst.round⟩
      cases b with
      | true => exact wpIn_cond_true hv (ihx r n K ⟨refE c s.e .tt, s.H, s.df⟩ S w μ a (ref .tt (R_tt_of hc rfl)) hb hT (h.1 rfl))
      | false => exact wpIn_cond_false hv (ihy r n K ⟨refE c s.e .ff, s.H, s.df⟩ S w μ a (ref .ff (R_ff_of hc rfl)) hb hT (h.2 rfl))
    · exact h.elim
  | block id x ih =>
    intro r n K s S w μ a hst hb hT h
    refine wpIn_block (wpIn_mono (ih r n _ s S w μ a hst hb hT h) (fun e a' w' hq => ?_))
    obtain ⟨S', μ', s', x', h1, h2, h3, h4⟩ := hq
    cases x' with
    | exit i =>
      cases e <;> try exact h2.elim
      have h2 : i = _ := h2
      subst h2
      have h1 : (bif Nat.beq i id then K .normal s' else K (.exit i) s') := h1
      simp only [Exit.inBlock]
      cases hi : Nat.beq i id with
      | true =>
        rw [hi, cond_true] at h1
        rw [if_pos (Nat.eq_of_beq_eq_true hi)]
        exact ⟨S', μ', s', .normal, h1, trivial, h3, h4⟩
      | false =>
        rw [hi, cond_false] at h1
        rw [if_neg (fun e => by subst e; rw [Nat.beq_refl] at hi; cases hi)]
        exact ⟨S', μ', s', .exit i, h1, rfl, h3, h4⟩
    | _ => cases e <;> first | exact h2.elim | exact ⟨S', μ', s', _, h1, h2, h3, h4⟩
  | region id ops draw =>
    intro r n K s S w μ a hst hb hT h
    cases draw with
    | true => exact sound_draw hC hst h
    | false =>
      have := sound_ops (n := n) hC ops.toList 0 s S w μ a rfl hst hT h
      refine wpIn_region ?_
      rwa [← List.range_eq_range', Array.length_toList] at this
  | loop x ih =>
    intro r n K s S w μ a hst hb hT h
    have h : fzh s.H (fun H => vcLoop1 (vc C N x) K ⟨s.e, H, s.df⟩) := h
    rw [fzh_iff] at h
    obtain ⟨G, sl, hp, m, I, gh, g0, h1, h2, h3⟩ := h
    obtain ⟨hr, he, hN, hdf, hro⟩ := hst
    obtain ⟨μ1, r1, t1, hgs⟩ := add_ghosts gh hr
    have he1 : EnvR S w μ1 s.e a := fun j => (he j).tr hr.1 t1
    have h0 : ∀ o, (s.H ++ ghosts gh).length ≤ o → μ1 o = none := r1.2
    refine wpIn_loop_ghost (fun g a' w' => I g ∧ ∃ S' μ', RelSt r N B S' w' μ' ⟨envOf (sl g), hp g, s.df⟩ a' ∧ Tr S w μ1 (hget (s.H ++ ghosts gh)) S' w' μ' (hget (hp g))) m g0 ?_ fun g a' w' ⟨hI, S', μ', k1, k2⟩ => ?_
    · obtain ⟨μ', g1, g2, g3⟩ := cut_state (s := ⟨s.e, s.H ++ ghosts gh, s.df⟩) ⟨r1, he1, hN, hdf.tr hr.1 t1, hro⟩ (.refl ..) h0 (lenB_len (h1 g0).2) hgs (h1 g0).1 h2
      exact ⟨g3, S, μ', g1, g2⟩
    · have tt := t1.trans k2
      refine wpIn_mono (ih r n _ ⟨envOf (sl g), hp g, s.df⟩ S' w' μ' a' k1 (fun b e => Nat.le_trans (hb b e) tt.size) (hC.step _ _ _ _ _ _ _ _ hT tt) (h3 g hI)) (fun e a2 w2 hq => ?_)
      obtain ⟨S2, μ2, s2, x2, q1, q2, q3, q4⟩ := hq
      cases x2 with
      | normal =>
        cases e <;> try exact q2.elim
        obtain ⟨g', hdf2, q1⟩ := q1
        obtain ⟨S3, μ3, r1, r2, r3⟩ := cut_state_f q3 (k2.trans q4) h0 (lenB_len (h1 g').2) (by rw [hdf2]; exact (h1 g').1) q1
        rw [hdf2] at r1
        exact ⟨g', ⟨r3.1, S3, μ3, r1, r2⟩, r3.2⟩
      | _ => cases e <;> first | exact q2.elim | exact ⟨S2, μ2, s2, _, q1, q2, q3, tt.trans q4⟩
  | rangeFunc f ps asg body iha ihb => exact fun r n K s S w μ a hst hb hT h => sound_range hC hB iha ihb hst hb hT h
  | _ => intro r n K s S w μ a hst hb hT h; exact h.elim
end
end Go.V
end
section
namespace Go.V
section
variable {P : Program} {C : Cx} {T : RT} {N : Nat} {S : Nat → Prop} {w : World} {μ : Mu} {H : HL}
theorem initE_get (ds : List D) (j : Nat) : initE ds j = ds.getD j .top := by
  induction ds generalizing j with
  | nil => rfl
  | cons d r ih => cases j with
    | zero => rfl
    | succ j => simpa [initE] using ih j
theorem init_env {ds : List D} {vs : List Value} (hRL : RL S w μ ds vs) (n : Nat) (dfs : List Deferred) : EnvR S w μ (initE ds) { tmps := vs.toArray ++ Array.replicate (n - vs.toArray.size) undef, defers := dfs } := fun j => by
  have hl := hRL.1
  show R S w μ (initE ds j) _
  rw [initE_get]
  rcases Nat.lt_or_ge j ds.length with hj | hj
  · have hj' : j < vs.length := by omega
    have := hRL.2 j ds[j] vs[j] (by simp [hj]) (by simp [hj'])
    have e1 : ds.getD j .top = ds[j] := by simp [List.getElem?_eq_getElem hj]
    have e2 : (vs.toArray ++ Array.replicate (n - vs.toArray.size) undef).getD j undef = vs[j] := by
      simp only [Array.getD_eq_getD_getElem?, Array.getElem?_append, List.size_toArray, hj', if_true, List.getElem?_toArray, List.getElem?_eq_getElem hj', Option.getD_some]
    rw [e1]
    simp only [e2]
    exact this
  · rw [List.getD_eq_getElem?_getD, List.getElem?_eq_none hj]
    exact .top _
theorem run_loadVar {t : Nat} {b off : Nat} {v : Value} (h : (Instr.loadAt t (.pointer (some ⟨b, off, none⟩))).run P w = .ok v w) : (loadVar t ⟨b, off, none⟩).run P w = .ok v w := by
  simpa [Instr.loadAt, Instr.sureAddr] using h
theorem R_ptr_form {T : Ty} {d : D} {v : Value} {H : HL} {k : D → Prop} (h : vload T d H k) (hR : R S w μ d v) : ∃ b off, v = .pointer (some ⟨b, off, none⟩) := by
  cases hR <;> simp only [V.vload] at h <;> exact ⟨_, _, rfl⟩
def resOne (tmps : Array Value) : ResultVar → Sem Value
  | .tmp t => Pure.pure (tmps.getD t undef)
  | .cell a t => do loadVar t (← asAddr (tmps.getD a undef))
theorem results_eq (fn : Func) (tmps : Array Value) : results fn tmps = (do let vs ← fn.results.mapM (resOne tmps); Pure.pure (if h : vs.size = 1 then vs[0] else .tuple vs)) := rfl
theorem vres_sound (hC : COK P C) {a : Act} {H : HL} {e : Env} (hr : RelL S w μ H) (he : EnvR S w μ e a) : ∀ (rs : List ResultVar) {k : List D → Prop}, vres C rs e H k →
    ∃ ds vs, (rs.mapM (resOne a.tmps)).run P w = .ok vs w ∧ RL S w μ ds vs ∧ k ds
  | [], k, h => ⟨[], [], by simp, ⟨rfl, fun i d v h => by simp at h⟩, h⟩
  | r :: rs, k, h => by
    cases r with
    | tmp t =>
      have h : fz (e t) (fun d => vres C rs e H fun ds => k (d :: ds)) := h
      rw [fz_iff] at h
      obtain ⟨ds, vs, g1, g2, g3⟩ := vres_sound hC hr he rs h
      refine ⟨e t :: ds, a.tmps.getD t undef :: vs, ?_, .cons (he t) g2, g3⟩
      simp only [List.mapM_cons, resOne, Sem.run_bind, Sem.run_pure, Result.andThen_ok, g1]
    | cell x t =>
      have h : vload (C.ty t) (e x) H (fun d => vres C rs e H fun ds => k (d :: ds)) := h
      obtain ⟨b, off, hv⟩ := R_ptr_form h (he x)
      obtain ⟨d, v, k1, k2, k3⟩ := sound_load (P := P) (hC.ty t) hr (he x) h
      obtain ⟨ds, vs, g1, g2, g3⟩ := vres_sound hC hr he rs k3
      refine ⟨d :: ds, v :: vs, ?_, .cons k2 g2, g3⟩
      rw [hv] at k1
      simp only [List.mapM_cons, resOne, Sem.run_bind, hv, asAddr, Sem.run_pure, Result.andThen_ok, run_loadVar k1, g1]
theorem put_other (hr : RelL S w μ H) {D : Nat} {ob : Obj} (hs : ¬ S D) (ho : ∀ o ob v, hget H o = some ob → μ o = some v → blk v ≠ some D) : RelL S (w.putObj D ob) μ H ∧ ∀ {d v}, R S w μ d v → R S (w.putObj D ob) μ d v := by
  have hst : ∀ b, S b → (w.putObj D ob).heap[b]? = w.heap[b]? := fun b hb => World.putObj_heap_other (fun e => hs (e ▸ hb))
  refine ⟨⟨⟨fun o ob' ho' => ?_, hr.1.sep, fun b hb => ⟨by rw [World.putObj_size]; exact (hr.1.stat b hb).1, (hr.1.stat b hb).2⟩⟩, hr.2⟩, fun h => h.keep (fun _ h => h) hst (.refl _)⟩
  obtain ⟨mv, h1, h2⟩ := hr.1.obs o ob' ho'
  exact ⟨mv, h1, h2.keep (fun _ h => h) hst (.refl _) fun b hb => World.putObj_heap_other (fun e => ho o ob' mv ho' h1 (by rw [hb, e]))⟩
theorem DfL.put {B : Option Nat} {Hp : Hp} {df : List D} {ds : List Deferred} (h : DfL B S w μ Hp df ds) {D : Nat} {ob : Obj} (hn : ∀ d ∈ ds, d.target ≠ .collected D) (hR : ∀ {d v}, R S w μ d v → R S (w.putObj D ob) μ d v) : DfL B S (w.putObj D ob) μ Hp df ds := by
  induction h with
  | nil => exact .nil
  | fn f fs cs vf vc h1 _ ih => exact .fn f fs cs vf vc (hR h1) (ih fun d hd => hn d (List.mem_cons_of_mem _ hd))
  | mark b D' h0 h1 h2 h3 h4 h5 h6 _ ih =>
    refine .mark b D' h0 h1 (by rw [World.putObj_size]; exact h2) ?_ h4 h5 h6 (ih fun d hd => hn d (List.mem_cons_of_mem _ hd))
    rw [World.putObj_heap_other (fun e => hn _ List.mem_cons_self (by rw [e]))]
    exact h3
def resV (vs : List Value) : Value := if h : vs.toArray.size = 1 then vs.toArray[0] else .tuple vs.toArray
def Fin (fin : List D → HL → Prop) (finP : D → HL → Prop) (S : Nat → Prop) (w : World) (μ : Mu) (H : HL) (e : Ending) (w' : World) : Prop := ∃ S' μ' H', RelL S' w' μ' H' ∧ Tr S w μ (hget H) S' w' μ' (hget H') ∧
  ((∃ ds vs, fin ds H' ∧ RL S' w' μ' ds vs ∧ e = .returned (resV vs)) ∨ ∃ d v, finP d H' ∧ R S' w' μ' d v ∧ e = .panicked [{ v, recovered := false }])
theorem leave_sound (hC : CallsOK P C T) {fn : Func} {tmps : Array Value} {e : Env} {fin : List D → HL → Prop} {finP : D → HL → Prop} {S0 : Nat → Prop} {w0 : World} {μ0 : Mu} {H0 : HL} {n : Nat} : ∀ (ds : List Deferred) (df : List D) (md : Md) (H : HL) (S : Nat → Prop) (w : World) (μ : Mu) (u : FrameMode),
    vleave C fn.results.toList e fin finP df md H → RelL S w μ H → EnvR S w μ e { tmps := tmps, defers := [] } → DfL (some w0.heap.size) S w μ (hget H) df ds → MdR S w μ md u → Tr S0 w0 μ0 (hget H0) S w μ (hget H) →
    LeavesInM (FW none) n P fn tmps (Fin fin finP S0 w0 μ0 H0) ds u w
  | [], df, md, H, S, w, μ, u, h, hr, he, hdf, hmd, t => by
    cases hdf
    cases md with
    | ret =>
      have hmd : u = .returning := hmd
      subst hmd
      have h : vres C fn.results.toList e H (fun ds => fin ds H) := h
      obtain ⟨ds, vs, g1, g2, g3⟩ := vres_sound hC.ok hr he _ h
      refine ⟨resV vs, ?_, S, μ, H, hr, t, .inl ⟨ds, vs, g3, g2, rfl⟩⟩
      rw [results_eq]
      simp only [Sem.run_bind]
      rw [Array.mapM_eq_mapM_toList]
      simp only [Sem.run_map]
      rw [g1]
      rfl
    | pan d =>
      obtain ⟨v, rfl, hv⟩ := hmd
      exact ⟨S, μ, H, hr, t, .inr ⟨d, v, h, hv, rfl⟩⟩
  | d :: ds, df, md, H, S, w, μ, u, h, hr, he, hdf, hmd, t => by
    have hu : u ≠ .run := fun e => by
      subst e
      cases md with
      | ret => have hmd : FrameMode.run = .returning := hmd; cases hmd
      | pan d => obtain ⟨v, e, _⟩ := hmd; cases e
    refine ⟨hu, ?_⟩
    cases hdf with
    | fn f fs cs vf vc h1 hdf' =>
      rename_i df
      have h : (match C.dfr f with
        | some dr => dr md (fs ++ cs) H fun md H => fzh H fun H => vleave C fn.results.toList e fin finP df md H
        | none => False) := h
      cases hd : C.dfr f with
      | none => rw [hd] at h; exact h.elim
      | some dr =>
        rw [hd] at h
        simp only at h
        have hs := hC.dfr f dr hd
        cases h1 with
        | fn _ _ _ _ _ hl1 hl2 hR1 hR2 =>
          have hRL : RL S w μ (fs ++ cs) (vf ++ vc).toList := by
            refine ⟨by simp [hl1, hl2], fun i d v h1 h2 => ?_⟩
            rw [Array.toList_append] at h2
            rw [List.getElem?_append] at h1 h2
            simp only [Array.length_toList, hl1] at h1 h2
            split at h1
            · rename_i hlt; rw [if_pos hlt] at h2; exact hR1 i d v h1 (by simpa using h2)
            · rename_i hlt; rw [if_neg hlt] at h2; exact hR2 _ d v h1 (by simpa using h2)
          have hcalls := hs.calls md _ H _ h S w μ _ u (n - 1) hr hRL hmd
          rw [Array.toArray_toList] at hcalls
          refine .inr ⟨fun h => absurd h Bool.false_ne_true, .func f, vc, f, vf ++ vc, rfl, hs.enters _ _, fun _ _ => trivial, hcalls.mono ?_⟩
          rintro e' u' w' ⟨⟨v, rfl⟩, S', μ', md', H', k1, k2, k3, k4⟩
          rw [fzh_iff] at k1
          exact leave_sound hC ds df md' H' S' w' μ' (settle u') k1 k3 (fun j => (he j).tr hr.1 k4) (hdf'.tr hr.1 k4) k2 (t.trans k4)
    | mark b D hb0 hb1 hlt hD hS hob hne hdf' =>
      injection hb0 with hb0
      obtain ⟨p1, p2⟩ := put_other (ob := .deferred none) hr hS hob
      refine .inl ⟨D, _, rfl, run_takeDeferred hD, leave_sound hC ds df md H S _ μ u h p1 (fun j => p2 (he j)) (hdf'.put hne p2) ?_ ?_⟩
      · cases md with
        | ret => exact hmd
        | pan d => obtain ⟨v, e, hv⟩ := hmd; exact ⟨v, e, p2 hv⟩
      · exact ⟨t.os, t.tape, t.output, by rw [World.putObj_size]; exact t.size, fun b hb hno => (World.putObj_heap_other (by omega)).trans (t.block b hb hno), t.sub, t.new, t.mu, t.blks, t.off, t.dom⟩
theorem body_sound (hC : CallsOK P C T) {f : Nat} {fn : Func} {code : Code} (hf : P.funcs[f]? = some fn) (hb : fn.body = some code) {fin : List D → HL → Prop} {finP : D → HL → Prop} {ds : List D} (h : vbody C fn code fin finP ds H) (hle : ds.length ≤ fn.ntmps)
    {vs : List Value} (hT : T S w μ (hget H)) (hr : RelL S w μ H) (hRL : RL S w μ ds vs) : Calls P f vs.toArray w (Fin fin finP S w μ H) := by
  refine (callsIn_FW (r := none) (n := 0)).1 (callsIn_of_wp_marks (F := FW none) hf hb trivial ?_)
  have hl := hRL.1
  have hst : RelSt none fn.ntmps (some w.heap.size) S w μ ⟨initE ds, H, some []⟩ { tmps := vs.toArray ++ Array.replicate (fn.ntmps - vs.toArray.size) undef, defers := [] } :=
    ⟨hr, init_env hRL _ _, by simp; omega, .nil, .inl rfl⟩
  refine wpIn_mono (sound_vc hC (.inl ⟨_, rfl⟩) code none 0 _ ⟨initE ds, H, some []⟩ S w μ _ hst (fun b e => by injection e with e; omega) hT h) ?_
  rintro x a' w' ⟨S', μ', s', x', q1, q2, q3, q4⟩
  cases hsd : s'.df with
  | none => simp only [hsd] at q1
  | some df =>
    simp only [hsd] at q1
    have hdf := q3.df
    rw [hsd] at hdf
    have he : EnvR S' w' μ' s'.e { tmps := a'.tmps, defers := [] } := q3.env
    cases x' with
    | normal => cases x <;> first | exact q2.elim | exact leave_sound hC _ df .ret s'.H S' w' μ' .returning q1 q3.rel he hdf rfl q4
    | ret => cases x <;> first | exact q2.elim | exact leave_sound hC _ df .ret s'.H S' w' μ' .returning q1 q3.rel he hdf rfl q4
    | exit i => exact q1.elim
    | panic d =>
      cases x <;> try exact q2.elim
      obtain ⟨v, rfl, hv⟩ := q2
      exact leave_sound hC _ df (.pan d) s'.H S' w' μ' _ q1 q3.rel he hdf ⟨v, rfl, hv⟩ q4
theorem sound_viewal {H : HL} (hr : Rel S w μ (hget H)) : ∀ (ds : List D) (vs : List Value) {k : List D → Prop}, RL S w μ ds vs → viewal H ds k → ∃ ds', k ds' ∧ (ds'.all noRef = true → RL (withH S μ (hget H)) w Mu0 ds' vs)
  | [], vs, k, hl, h => ⟨[], h, fun _ => ⟨hl.1, fun i d v h1 => by simp at h1⟩⟩
  | d :: ds, [], k, hl, h => by have := hl.1; simp at this
  | d :: ds, v :: vs, k, hl, h => by
    obtain ⟨hd, hl'⟩ := hl.cons_inv
    have h : viewa H d (fun d => viewal H ds fun r => k (d :: r)) := h
    obtain ⟨d', h1, h2⟩ := sound_viewa hr hd h
    obtain ⟨ds', h3, h4⟩ := sound_viewal hr ds vs hl' h1
    refine ⟨d' :: ds', h3, fun hn => ?_⟩
    simp only [List.all_cons, Bool.and_eq_true] at hn
    exact .cons (h2 hn.1) (h4 hn.2)
theorem enters_of {f : Nat} {fn : Func} {code : Code} (hf : P.funcs[f]? = some fn) (hname : (fn.name == "runtime.NumGoroutine") = false) (hb : fn.body = some code) : Enters P f := fun args w => by
  have hn : fn.name ≠ "runtime.NumGoroutine" := by simpa using hname
  simp [callFunc, hf, hn, hb, mark]
theorem vfun_calls {f : Nat} {fn : Func} {code : Code} (hf : P.funcs[f]? = some fn) (hb : fn.body = some code) (hC : CallsOK P C fun _ _ _ _ => True) {ds : List D} {k : D → Prop} (hle : ds.length ≤ fn.ntmps) (h : vfun C fn code k ds)
    (S : Nat → Prop) (w : World) (vs : List Value) (hS : ∀ b, S b → b < w.heap.size) (hRL : RL S w Mu0 ds vs) : Calls P f vs.toArray w fun e w' => ∃ v S' d, e = .returned v ∧ k d ∧ R S' w' Mu0 d v ∧ Grow S w S' w' := by
  have hr0 : RelL S w Mu0 [] := ⟨⟨fun o ob ho => by simp [hget] at ho, fun o o' ob ob' v v' b ho => by simp [hget] at ho, fun b hb => ⟨hS b hb, fun o ob v ho => by simp [hget] at ho⟩⟩, fun _ _ => rfl⟩
  refine (body_sound hC hf hb h hle trivial hr0 hRL).mono ?_
  rintro e w' ⟨S', μ', H', hr, t, ⟨ds1, vs1, h1, h2, rfl⟩ | ⟨d, v, h1, _⟩⟩
  · unfold finPure at h1
    obtain ⟨ds2, g4, g5⟩ := sound_viewal hr.1 ds1 vs1 h2 h1
    cases hn : ds2.all noRef with
    | false => simp [hn] at g4
    | true =>
      simp only [hn, cond_true] at g4
      have g6 := g5 hn
      have hgrow : Grow S w (withH S' μ' (hget H')) w' := ⟨t.os, t.tape, t.output, t.size, fun b hb => t.block b hb fun o ob v ho => by simp [hget] at ho, fun b hb => .inl (t.sub b hb), fun b hb => by
        rcases hb with hb | ⟨o, ob, v, ho, hv, hbv⟩
        · exact (t.new b hb).imp_right fun h => h.elim id fun ⟨o, ob, v, h1, _⟩ => by simp [hget] at h1
        · rcases t.blks o ob v b ho hv hbv with h1 | ⟨o', ob', v', h1, _⟩
          · exact .inr h1
          · simp [hget] at h1, fun b hb => by
        rcases hb with hb | ⟨o, ob, v, ho, hv, hbv⟩
        · exact (hr.1.stat b hb).1
        · obtain ⟨mv, m1, m2⟩ := hr.1.obs o ob ho
          rw [hv] at m1; injection m1 with m1; subst m1
          exact m2.blk_lt hbv⟩
      split at g4
      · rename_i d
        obtain ⟨d0, k1, k2⟩ := g4
        match vs1, g6 with
        | [v], g6 => exact ⟨_, _, d0, rfl, k1, by simpa [resV] using k2 _ _ _ g6.cons_inv.1, hgrow⟩
        | [], g6 => have := g6.1; simp at this
        | _ :: _ :: _, g6 => have := g6.1; simp at this
      · rename_i hne
        obtain ⟨d0, k1, k2⟩ := g4
        have : ¬ vs1.toArray.size = 1 := fun h1 => by
          have h2 := g6.1
          simp only [List.size_toArray] at h1
          match ds2, h2 with
          | [d], _ => exact hne d rfl
          | [], h2 => simp at h2; omega
          | _ :: _ :: _, h2 => simp at h2; omega
        refine ⟨_, _, d0, rfl, k1, ?_, hgrow⟩
        unfold resV
        rw [dif_neg this]
        exact k2 _ _ _ (.tup _ _ (by simpa using g6.1) fun i d v a b => g6.2 i d v a (by simpa using b))
  · exact h1.elim
theorem psound_of {f : Nat} {fn : Func} {code : Code} {r : PRule} (hf : P.funcs[f]? = some fn) (hname : (fn.name == "runtime.NumGoroutine") = false) (hb : fn.body = some code) (hC : CallsOK P C fun _ _ _ _ => True) (hdet : ∀ ds, Det (r ds))
    (h : ∀ ds k, r ds k → ds.length ≤ fn.ntmps ∧ ∃ ds', impAL noGh ds ds' (vfun C fn code k ds')) : PSound P f r := by
  refine ⟨hdet, enters_of hf hname hb, fun ds k hk S w vs hS hRL => ?_⟩
  obtain ⟨hle, ds', hi⟩ := h ds k hk
  obtain ⟨g1, g2⟩ := impAL_sound (gs := noGh) (fun o ho => by cases ho) hRL hi
  exact vfun_calls hf hb hC (by have := g1.1; have := hRL.1; omega) g2 S w vs hS g1
theorem inlC_calls (hC : CallsOK P C T) {f : Nat} {fn : Func} {code : Code} (hf : P.funcs[f]? = some fn) (hb : fn.body = some code) {ds : List D} {K : Res → HL → Prop} (h : inlC C fn code ds H K) {vs : List Value} (hT : T S w μ (hget H)) (hr : RelL S w μ H) (hRL : RL S w μ ds vs) :
    Calls P f vs.toArray w (CallPost S w μ H K) := by
  unfold inlC at h
  cases hq : Nat.ble ds.length fn.ntmps with
  | false => rw [hq] at h; exact h.elim
  | true =>
    rw [hq, cond_true] at h
    refine (body_sound hC hf hb h (Nat.le_of_ble_eq_true hq) hT hr hRL).mono ?_
    rintro e w' ⟨S', μ', H', hr', t, ⟨ds1, vs1, h1, h2, rfl⟩ | ⟨d, v, h1, h2, rfl⟩⟩
    · unfold finCall at h1
      split at h1
      · rename_i d
        match vs1, h2 with
        | [v], h2 => exact ⟨S', μ', .ret d, H', h1, by simpa [ResR, resV] using h2.cons_inv.1, hr', t⟩
        | [], h2 => have := h2.1; simp at this
        | _ :: _ :: _, h2 => have := h2.1; simp at this
      · rename_i hne
        have : ¬ vs1.toArray.size = 1 := fun h3 => by
          have h4 := h2.1
          simp only [List.size_toArray] at h3
          match ds1, h4 with
          | [d], _ => exact hne d rfl
          | [], h4 => simp at h4; omega
          | _ :: _ :: _, h4 => simp at h4; omega
        refine ⟨S', μ', .ret (.tup ds1), H', h1, ?_, hr', t⟩
        show R S' w' μ' (.tup ds1) (resV vs1)
        unfold resV
        rw [dif_neg this]
        exact .tup _ _ (by simpa using h2.1) fun i d v a b => h2.2 i d v a (by simpa using b)
    · exact ⟨S', μ', .pan d, H', h1, ⟨v, rfl, h2⟩, hr', t⟩
theorem csound_of {f : Nat} {fn : Func} {code : Code} (hf : P.funcs[f]? = some fn) (hname : (fn.name == "runtime.NumGoroutine") = false) (hb : fn.body = some code) (hC : CallsOK P C fun _ _ _ _ => True) : CSound P f (inlC C fn code) :=
  ⟨enters_of hf hname hb, fun _ _ _ h _ _ _ _ hr hRL => inlC_calls hC hf hb h trivial hr hRL⟩
theorem CallsOK.withY (hC : CallsOK P C T) {T' : RT} {ol : Nat} {h : CRule} (hT : RTok T') (hy : YSound P T' ol h) : CallsOK P { C with yld := some (ol, h) } T' :=
  ⟨⟨hC.ok.ty, hC.ok.zero, hC.ok.eq⟩, hC.mixed, hC.pure, hC.call, hC.iter, hC.dfr, fun ol' h' e => by
    simp only [Option.some.injEq, Prod.mk.injEq] at e
    obtain ⟨rfl, rfl⟩ := e
    exact hy, hT⟩
theorem isound_of {f : Nat} {fn : Func} {code : Code} (hf : P.funcs[f]? = some fn) (hname : (fn.name == "runtime.NumGoroutine") = false) (hb : fn.body = some code) (hC : CallsOK P C T) : ISound P f (inlI C fn code) :=
  ⟨enters_of hf hname hb, fun ol h T' hT hy ds H K hk S w μ vs hTw hr hRL => inlC_calls (hC.withY hT hy) hf hb hk hTw hr hRL⟩
theorem DfL.none_nil {Hp : Hp} {ds : List Deferred} (h : DfL none S w μ Hp [] ds) : ds = [] := by
  cases h with
  | nil => rfl
  | mark b D h0 => cases h0
theorem dsound_of {f : Nat} {fn : Func} {code : Code} (hf : P.funcs[f]? = some fn) (hname : (fn.name == "runtime.NumGoroutine") = false) (hb : fn.body = some code) (hres : fn.results = #[]) (hC : CallsOK P C fun _ _ _ _ => True) : DSound P f (inlD C fn code) := by
  refine ⟨enters_of hf hname hb, fun md ds H K h S w μ vs u n hr hRL hmd => ?_⟩
  unfold inlD at h
  split at h
  · rename_i id ops rest
    split at h
    · rename_i o1 o2 hops
      cases hq : (recOp o1 && Nat.ble ds.length fn.ntmps) with
      | false => rw [hq] at h; exact h.elim
      | true =>
        rw [hq, cond_true] at h
        simp only [Bool.and_eq_true] at hq
        obtain ⟨hro, hle⟩ := hq
        have hle := Nat.le_of_ble_eq_true hle
        split at h
        · rename_i hg2
          split at h
          · rename_i t hop2
            rw [fz_iff] at h
            obtain ⟨ops⟩ := ops
            simp only at hops
            subst hops
            have hC' : CallsOK P { C with iter := fun _ => none } fun _ _ _ _ => True := ⟨⟨hC.ok.ty, hC.ok.zero, hC.ok.eq⟩, hC.mixed, hC.pure, hC.call, (fun f i e => by cases e), hC.dfr, hC.yld, hC.step⟩
            have hl := hRL.1
            have hrec : o1.guard = none ∧ ∃ ats, o1.op = .call { callee := .builtin .recover, args := #[], argTypes := ats } := by
              unfold recOp at hro
              split at hro
              · rename_i hg
                split at hro
                · rename_i c hop
                  obtain ⟨callee, args, ats⟩ := c
                  split at hro
                  · rename_i hcal
                    simp only at hcal
                    subst hcal
                    have := nilB_eq hro
                    have : args = #[] := by simpa using this
                    subst this
                    exact ⟨hg, ats, hop⟩
                  · cases hro
                · cases hro
              · cases hro
            obtain ⟨hg1, ats, hop1⟩ := hrec
            obtain ⟨v0, u0, hv0, hrd, hset⟩ : ∃ v0 u0, R S w μ (recD md) v0 ∧ (∀ (c₀ : Frame) (cs : List Frame), c₀.mode = u → (recoverD (c₀ :: cs) = some (v0, { c₀ with mode := u0 } :: cs) ∨ (recoverD (c₀ :: cs) = none ∧ v0 = .nilIface ∧ u0 = u))) ∧ settle u0 = .returning := by
              cases md with
              | ret =>
                have hmd : u = .returning := hmd
                subst hmd
                refine ⟨.nilIface, .returning, .nilI, fun c₀ cs hc => .inr ⟨?_, rfl, rfl⟩, rfl⟩
                simp [recoverD, hc]
              | pan d =>
                obtain ⟨v, rfl, hv⟩ := hmd
                refine ⟨v, .panicking [{ v, recovered := true }], hv, fun c₀ cs hc => .inl ?_, by simp [settle]⟩
                simp [recoverD, hc]
            refine callsDIn_of_wpSIn (F := FW none) hf hb trivial fun c₀ cs hc => ?_
            have hN : (vs.toArray ++ Array.replicate (fn.ntmps - vs.toArray.size) undef).size = fn.ntmps := by simp; omega
            have he0 : EnvR S w μ (initE ds) { tmps := vs.toArray ++ Array.replicate (fn.ntmps - vs.toArray.size) undef, defers := [] } := init_env hRL _ _
            obtain ⟨e1, h1, he1⟩ := sound_put he0 hN hv0 h
            obtain ⟨e2, h2, he2⟩ := sound_put he1 (by rw [V.Act.put_size]; exact hN) (he1 t) h1
            refine wpSIn_seq (wpSIn_region ?_)
            -- the first region
            have fin : ∀ (cs' : List Frame), cs' = { c₀ with mode := u0 } :: cs →
                wpOpsSIn (FW none) n P #[o1, o2] (Exit.thenS (rest.wpSIn (FW none) n P (bodyPostS P fn c₀ cs fun e u' w' => (∃ v, e = Ending.returned v) ∧ ∃ S' μ' md' H', K md' H' ∧ MdR S' w' μ' md' (settle u') ∧ RelL S' w' μ' H' ∧ Tr S w μ (hget H) S' w' μ' (hget H')))
                  (bodyPostS P fn c₀ cs fun e u' w' => (∃ v, e = Ending.returned v) ∧ ∃ S' μ' md' H', K md' H' ∧ MdR S' w' μ' md' (settle u') ∧ RelL S' w' μ' H' ∧ Tr S w μ (hget H) S' w' μ' (hget H'))) [1]
                  (({ tmps := vs.toArray ++ Array.replicate (fn.ntmps - vs.toArray.size) undef, defers := [] } : Act).put o1.dst v0) cs' w := fun cs' hcs => by
              subst hcs
              simp only [wpOpsSIn, List.getElem?_toArray, List.getElem?_cons_succ, List.getElem?_cons_zero]
              refine ⟨fun _ _ => trivial, ?_⟩
              have hw2 : Region.wanted o2 (yielded #[o1, o2] (({ tmps := vs.toArray ++ Array.replicate (fn.ntmps - vs.toArray.size) undef, defers := [] } : Act).put o1.dst v0).tmps) = true := by simp [Region.wanted, hg2]
              rw [if_pos hw2]
              have hrun2 : ∀ (a : Act), (execOp a.eval o2).run P w = .ok (.value (a.tmps.getD t undef)) w := fun a => by simp [execOp, hop2, Act.eval]
              rw [hrun2]
              simp only [Exit.thenS]
              refine wpSIn_of_wpIn rfl ?_
              have hst : RelSt none fn.ntmps none S w μ ⟨e2, H, some []⟩ ((({ tmps := vs.toArray ++ Array.replicate (fn.ntmps - vs.toArray.size) undef, defers := [] } : Act).put o1.dst v0).put o2.dst ((({ tmps := vs.toArray ++ Array.replicate (fn.ntmps - vs.toArray.size) undef, defers := [] } : Act).put o1.dst v0).tmps.getD t undef)) :=
                ⟨hr, he2, by rw [V.Act.put_size, V.Act.put_size]; exact hN, by rw [V.Act.put_defers, V.Act.put_defers]; exact .nil, .inl rfl⟩
              refine wpIn_mono (sound_vc hC' (.inr fun _ => rfl) rest none n _ _ S w μ _ hst (fun b e => by cases e) trivial h2) ?_
              rintro x a' w' ⟨S', μ', s', x', q1, q2, q3, q4⟩
              have out : (match s'.df with | some [] => K .ret s'.H | _ => False) → a'.defers = [] ∧ ∃ u', ({ c₀ with mode := u0 } :: cs : List Frame) = { c₀ with mode := u' } :: cs ∧ ∃ v, (results fn a'.tmps).run P w' = .ok v w' ∧ (∃ v', Ending.returned v = Ending.returned v') ∧ ∃ S' μ' md' H', K md' H' ∧ MdR S' w' μ' md' (settle u') ∧ RelL S' w' μ' H' ∧ Tr S w μ (hget H) S' w' μ' (hget H') := fun q => by
                have hdf := q3.df
                cases hsd : s'.df with
                | none => rw [hsd] at q; exact q.elim
                | some df =>
                  cases df with
                  | cons _ _ => rw [hsd] at q; exact q.elim
                  | nil =>
                    rw [hsd] at q hdf
                    have hd0 := DfL.none_nil hdf
                    refine ⟨hd0, u0, rfl, .tuple #[], ?_, ⟨_, rfl⟩, S', μ', .ret, s'.H, q, hset, q3.rel, q4⟩
                    simp [results, hres]
              cases x' with
              | normal => cases x <;> first | exact q2.elim | exact out q1
              | ret => cases x <;> first | exact q2.elim | exact out q1
              | exit i => exact q1.elim
              | panic d => exact q1.elim
            have hrange : List.range (#[o1, o2] : Array Oper).size = [0, 1] := rfl
            rw [hrange]
            simp only [wpOpsSIn, List.getElem?_toArray, List.getElem?_cons_zero]
            refine ⟨fun _ _ => trivial, ?_⟩
            have hw1 : Region.wanted o1 (yielded #[o1, o2] (vs.toArray ++ Array.replicate (fn.ntmps - vs.toArray.size) undef)) = true := by simp [Region.wanted, hg1]
            rw [if_pos hw1]
            have hrun1 : ∀ (a : Act), (execOp a.eval o1).run P w = .ok .recover w := fun a => by simp [execOp, hop1, resolve, invoke, builtin]
            rw [hrun1]
            simp only
            rcases hrd c₀ cs hc with h3 | ⟨h3, rfl, rfl⟩
            · rw [h3]
              exact fin _ rfl
            · rw [h3]
              have hf1 := fin (c₀ :: cs) (by cases c₀; simp only at hc; rw [hc])
              simp only [wpOpsSIn, List.getElem?_toArray, List.getElem?_cons_succ, List.getElem?_cons_zero, h3] at hf1 ⊢
              exact hf1
          · exact h.elim
        · exact h.elim
    · exact h.elim
  · exact h.elim
end
end Go.V
end
