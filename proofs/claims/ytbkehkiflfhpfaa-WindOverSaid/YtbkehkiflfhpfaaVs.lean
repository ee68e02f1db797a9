/-
  A small logic of our own, part 11b: regions that draw their order: all orders.
-/
import Derived.Test.YtbkehkiflfhpfaaVk
set_option linter.unusedVariables false
set_option linter.unusedSimpArgs false
namespace Go.V

/-- Calls that may turn objects come as late as they can. -/
def cand (C : Cx) (o : Oper) : Bool := match o.op with
  | .call c => match c.callee with
    | .value f => match f with
      | .func g => (match C.call g with | some _ => true | none => false)
      | _ => true
    | _ => false
  | _ => false
def okAt (done : List Nat) (o : Oper) : Bool := o.after.toList.all fun e => !Region.binds .any e || memB e.on done
def pick1 (C : Cx) (ops : List Oper) (late : Bool) (done : List Nat) : Nat → Nat → Option Nat
  | 0, _ => none
  | f + 1, i => match ops[i]? with
    | none => none
    | some o => bif !memB i done && (late || !cand C o) && okAt done o then some i else pick1 C ops late done f (i + 1)
def ordr (C : Cx) (ops : List Oper) (n : Nat) : Nat → List Nat → List Nat
  | 0, done => done.reverse
  | f + 1, done => match pick1 C ops false done n 0 with
    | some i => ordr C ops n f (i :: done)
    | none => match pick1 C ops true done n 0 with
      | some i => ordr C ops n f (i :: done)
      | none => done.reverse
def order (C : Cx) (ops : List Oper) : List Nat := bif ops.any (cand C) then ordr C ops ops.length ops.length [] else List.range ops.length
def fzo (x : Nat × Oper) (k : Nat × Oper → Prop) : Prop := match x with
  | (i, ⟨dst, op, ty, pos, after, guard⟩) => k (i, ⟨dst, op, ty, pos, after, guard⟩)
def fzlo (l : List (Nat × Oper)) : (List (Nat × Oper) → Prop) → Prop := @List.rec (Nat × Oper) (fun _ => (List (Nat × Oper) → Prop) → Prop) (fun k => k []) (fun x _ ih k => fzo x fun x => ih fun r => k (x :: r)) l
theorem fzlo_iff : ∀ (l : List (Nat × Oper)) (k : List (Nat × Oper) → Prop), fzlo l k ↔ k l
  | [], k => Iff.rfl
  | x :: r, k => by
    show fzo x (fun x => fzlo r fun r => k (x :: r)) ↔ _
    have : fzo x (fun x => fzlo r fun r => k (x :: r)) = fzlo r fun r => k (x :: r) := rfl
    rw [this, fzlo_iff r]
/-- A region that draws its order. -/
def vdraw (C : Cx) (N : Nat) (oa : Array Oper) (K : VX → St → Prop) (s : St) : Prop := match s with
  | ⟨e0, H0, df0⟩ => fzlo (loOf oa (order C oa.toList)) fun lo =>
    (tmpOK oa lo = true ∧ loOf oa (lo.map Prod.fst) = lo) ∧ fzn H0.length fun n => fzn (rank lo lo.length) fun m => fzh (pad m H0) fun H => vdr C N oa oa.toList e0 K lo n [] ⟨e0, H, df0⟩
theorem vdraw_eq (C : Cx) (N : Nat) (oa : Array Oper) (K : VX → St → Prop) (s : St) : vdraw C N oa K s = (fzlo (loOf oa (order C oa.toList)) fun lo =>
  (tmpOK oa lo = true ∧ loOf oa (lo.map Prod.fst) = lo) ∧ vdr C N oa oa.toList s.e K lo s.H.length [] ⟨s.e, pad (rank lo lo.length) s.H, s.df⟩) := by
  cases s
  simp only [vdraw, fzn_eq, fzh_eq]
section
variable {P : Program} {C : Cx} {RTT : RT} {N : Nat} {oa : Array Oper} {o : Oper} {S : Nat → Prop} {w : World} {μ : Mu} {r : Option Nat} {B0 : Option Nat} {B : Nat} {lo : List (Nat × Oper)} {S0 : Nat → Prop} {w0 : World} {μ0 : Mu} {s0 : St} {K : VX → St → Prop}

theorem rank_zero (lo : List (Nat × Oper)) : rank lo 0 = 0 := by cases lo <;> rfl
theorem drawn_any (hC : CallsOK P C RTT) (hok : tmpOK oa lo = true) (hloa : ∀ (p i : Nat) o, lo[p]? = some (i, o) → oa[i]? = some o) (hB : B + rank lo lo.length ≤ s0.H.length) (hro : r = none ∨ s0.df = none) {n : Nat} :
    ∀ (fuel : Nat) (m : Nat) (st : Nat → St) (T : Nat → Rec) (hist : Hist) (listed : Array Bool) (S : Nat → Prop) (μ : Mu) (HX : HL) (a : Act) (w : World), st 0 = s0 → listed.size = oa.size → cntF oa.size listed ≤ fuel → (∀ i y, Xof listed i → oa[i]? = some y → ∀ e ∈ y.after, Region.binds .any e = true → Xof listed e.on) →
      Wk C N oa lo B m st T hist → m ≤ lo.length → Kont C N oa s0.e K lo B m st hist → Inv N B0 oa lo B m st T S0 w0 μ0 (Xp lo listed) S μ HX a w → wpAnyIn (FW r) n P .any oa (PostC S0 w0 μ0 (hget s0.H) r N B0 K) fuel listed a w := by
  have hrB : ∀ (st : Nat → St), st 0 = s0 → ∀ p, p < lo.length → B + rank lo p < (st 0).H.length ∨ ∀ y, lo[p]? = some y → isWr y.2.op = false := fun st h0 p hp => by
    cases hw : isWr (lo[p]).2.op with
    | true =>
      have := rank_lt lo p lo.length lo[p] (by simp [hp]) hw hp
      rw [h0]
      exact .inl (by omega)
    | false =>
      refine .inr fun y hy => ?_
      rw [List.getElem?_eq_getElem hp] at hy
      injection hy with hy
      rw [← hy]; exact hw
  have hpos : ∀ {k : Nat}, k < oa.size → ∃ (p : Nat) (y : Oper), p < lo.length ∧ lo[p]? = some (k, y) ∧ oa[k]? = some y := fun {k} hk => by
    obtain ⟨p, ⟨k', y⟩, hx, rfl⟩ := tmpOK_all hok hk
    exact ⟨p, y, (List.getElem?_eq_some_iff.1 hx).1, hx, hloa p k' y hx⟩
  have hall : ∀ (listed : Array Bool), listed.size = oa.size → Region.ready .any oa listed = [] → ∀ p, p < lo.length → Xp lo listed p := fun listed hs hr p => by
    induction p using Nat.strongRecOn with
    | _ p ih =>
      intro hp
      apply Classical.byContradiction
      intro hn
      obtain ⟨⟨k, y⟩, hy⟩ : ∃ x, lo[p]? = some x := ⟨lo[p], by simp [hp]⟩
      have hoy := hloa p k y hy
      have hkl : k < listed.size := by rw [hs]; exact (Array.getElem?_eq_some_iff.1 hoy).1
      have : k ∈ Region.ready .any oa listed := mem_ready.2 ⟨by
        cases hb : listed.getD k true with
        | false => rfl
        | true =>
          refine absurd ⟨_, hy, ?_⟩ hn
          simp only [Xof, Array.getD, hkl, dite_true] at hb ⊢
          exact hb, y, hoy, fun e he hb => by
        obtain ⟨q, x, hq, hx, e1⟩ := tmpOK_edge hok hy e he hb
        obtain ⟨x', hx', hX⟩ := ih q hq (by omega)
        rw [hx] at hx'; injection hx' with hx'; subst hx'
        rw [← e1]; exact hX⟩
      rw [hr] at this
      cases this
  have hend : ∀ (m : Nat) (st : Nat → St) (T : Nat → Rec) (hist : Hist) (listed : Array Bool) (S : Nat → Prop) (μ : Mu) (HX : HL) (a : Act) (w : World), st 0 = s0 → (∀ p, p < lo.length → Xp lo listed p) → Wk C N oa lo B m st T hist → m ≤ lo.length → Kont C N oa s0.e K lo B m st hist →
      Inv N B0 oa lo B m st T S0 w0 μ0 (Xp lo listed) S μ HX a w → PostC S0 w0 μ0 (hget s0.H) r N B0 K .normal a w := fun m st T hist listed S μ HX a w h0 hX hW hm hk h => by
    rcases hk with ⟨rfl, hk⟩ | ⟨i, o, rest, e1, h1, _⟩
    · have hheap : ∀ o, hget HX o = hget (st lo.length).H o := fun o => h.heap hW hm (Nat.le_refl _) fun i hi _ => ⟨fun _ => hX i (by omega), fun h1 => absurd hi (by omega)⟩
      have hg : hget HX = hget (st lo.length).H := funext hheap
      refine ⟨S, μ, _, .normal, hk, trivial, ⟨h.rel.sub h.len.symm fun o ob ho => by rw [hheap]; exact ho, fun j => h.env hW hok hm (Nat.le_refl _) fun i z hz _ => ⟨fun hi => hX i hi, fun hi => absurd (List.getElem?_eq_some_iff.1 hz).1 (by omega)⟩, h.tmps, ?_, ?_⟩, ?_⟩
      · rw [lexDf hW _ (Nat.le_refl _), ← hg]; exact h.df
      · rw [lexDf hW _ (Nat.le_refl _), h0]; exact hro
      · rw [← hg, ← h0]; exact h.tr
    · have := getElem?_of_drop h1
      have hml : m < lo.length := (List.getElem?_eq_some_iff.1 this.1).1
      exact absurd (h.sub m (hX m hml)) (by omega)
  intro fuel
  induction fuel with
  | zero =>
    intro m st T hist listed S μ HX a w h0 hs hc hcl hW hm hk h
    have hXo := cntF_zero listed oa.size (by omega)
    have hX : ∀ p, p < lo.length → Xp lo listed p := fun p hp => by
      obtain ⟨⟨k, y⟩, hy⟩ : ∃ x, lo[p]? = some x := ⟨lo[p], by simp [hp]⟩
      exact ⟨_, hy, hXo k (Array.getElem?_eq_some_iff.1 (hloa p k y hy)).1⟩
    refine ⟨?_, hend m st T hist listed S μ HX a w h0 hX hW hm hk h⟩
    cases hr : Region.ready .any oa listed with
    | nil => rfl
    | cons i r =>
      have hi : i ∈ Region.ready .any oa listed := by rw [hr]; exact List.mem_cons_self
      obtain ⟨h0, y, hy, _⟩ := mem_ready.1 hi
      have hio := (Array.getElem?_eq_some_iff.1 hy).1
      have hx := hXo i hio
      have hil : i < listed.size := by omega
      simp only [Array.getD, hil, dite_true] at hx h0
      rw [h0] at hx; cases hx
  | succ fuel ih =>
    intro m st T hist listed S μ HX a w h0 hs hc hcl hW hm hk h
    refine ⟨fun hr => hend m st T hist listed S μ HX a w h0 (hall listed hs hr) hW hm hk h, fun k hkr => ?_⟩
    obtain ⟨hk0, y, hoy, hpre⟩ := mem_ready.1 hkr
    have hks : k < oa.size := (Array.getElem?_eq_some_iff.1 hoy).1
    have hkl : k < listed.size := by omega
    have hnk : ¬ Xof listed k := by
      simp only [Xof, Array.getD, hkl, dite_true] at hk0 ⊢
      rw [hk0]; exact Bool.false_ne_true
    obtain ⟨p, y', hp, hy, hoy'⟩ := hpos hks
    rw [hoy] at hoy'; injection hoy' with hoy'; subst hoy'
    have hcnt : cntF oa.size (listed.setIfInBounds k true) ≤ fuel := by have := cntF_lt listed k hnk hkl oa.size hks; omega
    have hcl' : ∀ i z, Xof (listed.setIfInBounds k true) i → oa[i]? = some z → ∀ e ∈ z.after, Region.binds .any e = true → Xof (listed.setIfInBounds k true) e.on := fun i z hi hz e he hb => by
      rcases (set_getD hkl).1 hi with hi | rfl
      · exact (set_getD hkl).2 (.inl (hcl i z hi hz e he hb))
      · rw [hoy] at hz; injection hz with hz; subst hz
        exact (set_getD hkl).2 (.inl (hpre e he hb))
    rcases Nat.lt_trichotomy p m with h1 | h1 | h1
    · exact drawn_step hC hok hloa hW hm (hrB st h0) hs hcl h h1 hy hnk hpre fun S' μ' HX' a' w' h' _ => ih m st T hist _ S' μ' HX' a' w' h0 (by simpa using hs) hcnt hcl' hW hm hk h'
    · subst h1
      rcases hk with ⟨h2, _⟩ | ⟨i, o, rest, e1, h2, href, hguard, hwr, hv⟩
      · omega
      · obtain ⟨h3, h4⟩ := getElem?_of_drop h2
        rw [hy] at h3
        simp only [Option.some.injEq, Prod.mk.injEq] at h3
        obtain ⟨rfl, rfl⟩ := h3
        obtain ⟨_, _, hlooks⟩ := turn_of hW hok hloa hm hcl h (Nat.le_refl _) hy hnk hpre
        have hwant := hguard a fun j hj => ⟨S, w, μ, hlooks j hj⟩
        unfold wpOpIn
        simp only [hoy]
        rw [if_pos hwant]
        have hcall := drawn_call (r := r) (S0 := S0) (w0 := w0) (μ0 := μ0) (K := K) (n := n) (K' := wpAnyIn (FW r) n P .any oa (PostC S0 w0 μ0 (hget s0.H) r N B0 K) fuel (listed.setIfInBounds k true)) hC hok hloa hW hm (by rw [h0]; exact hB) hs hcl h (by rw [h0]; exact hro) h2 href hguard hwr (by rw [h0]; exact hv) hnk hpre
          fun S' μ' HX' a' w' st' T' hist' g1 g2 g3 g4 => by
            have hr1 : rank lo (p + 1) = rank lo p := by
              rw [rank_succ lo p k y hy]
              unfold more
              rw [hwr]; rfl
            obtain ⟨m2, st2, T2, hist2, k1, k2, k3, k4, k5, k6, k7⟩ := vdr_seg hC rest (p + 1) st' T' hist' h4 (by omega) g2 (by rw [hr1]; exact g3)
            have h02 : st2 0 = s0 := by rw [k2 0 (by omega), g1 0 (by omega), h0]
            refine ih m2 st2 T2 hist2 _ S' μ' HX' a' w' h02 (by simpa using hs) hcnt hcl' k4 k6 k7 ?_
            -- the walk has gone on; what was carried out has not
            have hT2 : ∀ q, Xp lo (listed.setIfInBounds k true) q → T2 q = T' q := fun q hq => k3 q (g4.sub q hq)
            refine ⟨g4.rel, ?_, g4.tmps, ?_, ?_, fun j hj => ?_, fun q z j hq hz hd => ?_, fun o ho => ?_, fun o q hq hw hlast => ?_, g4.mm, fun q hq => ?_, fun q hq hc => ?_⟩
            · rw [g4.len, ← k2 (p + 1) (Nat.le_refl _)]
              have : ∀ d, p + 1 + d ≤ m2 → (st2 (p + 1 + d)).H.length = (st2 (p + 1)).H.length := fun d => by
                induction d with
                | zero => exact fun _ => rfl
                | succ d ihd =>
                  intro hd
                  rw [← ihd (by omega)]
                  obtain ⟨⟨i', y'⟩, hy'⟩ : ∃ x, lo[p + 1 + d]? = some x := ⟨lo[p + 1 + d], by simp [show p + 1 + d < lo.length by omega]⟩
                  obtain ⟨w1, w2, w3, w4, w5⟩ := k4.chain (p + 1 + d) (by omega)
                  have hrun := (k4.ok (p + 1 + d) i' y' (by omega) hy').run
                  have hcf := k5 (p + 1 + d) (by omega) (by omega)
                  rw [show p + 1 + (d + 1) = p + 1 + d + 1 by omega]
                  rcases hrun with ⟨_, _, _, _, e⟩ | ⟨_, _, _, _, _, e⟩ | ⟨_, _, _, _, _, hl, _, _, e⟩ | ⟨e, _⟩
                  · rw [w4, w2] at e; rw [e]
                  · rw [w4, w2] at e; rw [e]
                  · rw [w4, w2] at e
                    rw [w2] at hl
                    rw [e, mergeH_len _ _ _ _ hl]
                  · rw [hcf] at e; cases e
              have := this (m2 - (p + 1)) (by omega)
              rw [show p + 1 + (m2 - (p + 1)) = m2 by omega] at this
              exact this.symm
            · rw [k2 0 (by omega)]; exact g4.df
            · rw [k2 0 (by omega)]; exact g4.tr
            · rw [k2 0 (by omega)]; exact g4.e1 j hj
            · rw [hT2 q hq]; exact g4.e2 q z j hq hz hd
            · rw [k2 0 (by omega)]
              exact g4.h1 o fun q hq => by have := ho q hq; rwa [hT2 q hq] at this
            · have hqm := g4.sub q hq
              rw [hT2 q hq] at hw
              rw [k2 (q + 1) (by omega)]
              exact g4.h2 o q hq hw fun q' hq' hlt => by have := hlast q' hq' hlt; rwa [hT2 q' hq'] at this
            · have := g4.sub q hq; omega
            · rcases Nat.lt_or_ge q (p + 1) with h5 | h5
              · rw [k3 q h5] at hc; exact g4.done q h5 hc
              · rw [k5 q h5 hq] at hc; cases hc
        rw [h0] at hcall
        exact hcall
    · exfalso
      rcases hk with ⟨h2, _⟩ | ⟨i, o, rest, e1, h2, _, _, _, hv⟩
      · omega
      · obtain ⟨h3, h4⟩ := getElem?_of_drop h2
        rw [vdcall_eq] at hv
        cases hra : rest.all (fun x => reach 5 oa.toList i x.1) with
        | false => rw [hra] at hv; exact hv.elim
        | true =>
          have hmem : (k, y) ∈ rest := by
            have h5 : (lo.drop (m + 1))[p - (m + 1)]? = some (k, y) := by
              rw [List.getElem?_drop, show m + 1 + (p - (m + 1)) = p by omega]; exact hy
            rw [h4] at h5
            exact List.mem_of_getElem? h5
          have hr := List.all_eq_true.1 hra _ hmem
          have hXi : Xof listed i := reach_closed hcl 5 i k hr fun z hz e he hb => by
            rw [hoy] at hz; injection hz with hz; subst hz; exact hpre e he hb
          exact absurd (h.sub m ⟨_, h3, hXi⟩) (by omega)

theorem sound_draw (hC : CallsOK P C RTT) {id : Nat} {s : St} {a : Act} {n : Nat} (hst : RelSt r N B0 S w μ s a) (h : vdraw C N oa K s) : (Code.region id oa true).wpIn (FW r) n P (PostC S w μ (hget s.H) r N B0 K) a w := by
  rw [vdraw_eq] at h
  rw [fzlo_iff] at h
  generalize hlo : loOf oa (order C oa.toList) = lo at h
  obtain ⟨⟨hok, _⟩, h⟩ := h
  have hloa : ∀ (p i : Nat) o, lo[p]? = some (i, o) → oa[i]? = some o := fun p i o h => by rw [← hlo] at h; exact loOf_get h
  obtain ⟨hr, he, hN, hdf, hro⟩ := hst
  let s0 : St := ⟨s.e, pad (rank lo lo.length) s.H, s.df⟩
  have hl0 : s0.H.length = s.H.length + rank lo lo.length := pad_len _ _
  have hg0 : hget s0.H = hget s.H := pad_get _ _
  have hW0 : Wk C N oa lo s.H.length 0 (fun _ => s0) (fun _ => ⟨s.e, s.H, s.e, true, false, .top, [], [], s.H, s.e, s.H⟩) [] :=
    ⟨fun p hp => absurd hp (by omega), fun p i o hp => absurd hp (by omega), fun p q i k o o' h1 h2 => absurd h2 (by omega), fun p i o hp => absurd hp (by omega), fun p q i k o o' hp => absurd hp (by omega)⟩
  obtain ⟨m, st, T, hist, g1, g2, g3, g4, g5, g6, g7⟩ := vdr_seg (B := s.H.length) hC lo 0 (fun _ => s0) _ [] rfl (Nat.zero_le _) hW0 (by rw [rank_zero]; exact h)
  have hst0 : st 0 = s0 := g2 0 (Nat.le_refl _)
  have hno : ∀ p, ¬ Xp lo (Array.replicate oa.size false) p := fun p ⟨x, _, hi⟩ => by
    simp only [Xof, Array.getD_eq_getD_getElem?, Array.getElem?_replicate] at hi
    split at hi <;> simp at hi
  have hlen : ∀ d, d ≤ m → (st d).H.length = s0.H.length := fun d => by
    induction d with
    | zero => exact fun _ => by rw [hst0]
    | succ d ihd =>
      intro hd
      rw [← ihd (by omega)]
      obtain ⟨⟨i', y'⟩, hy'⟩ : ∃ x, lo[d]? = some x := ⟨lo[d], by simp [show d < lo.length by omega]⟩
      obtain ⟨w1, w2, w3, w4, w5⟩ := g4.chain d (by omega)
      have hrun := (g4.ok d i' y' (by omega) hy').run
      have hcf := g5 d (by omega) (by omega)
      rcases hrun with ⟨_, _, _, _, e⟩ | ⟨_, _, _, _, _, e⟩ | ⟨_, _, _, _, _, hl, _, _, e⟩ | ⟨e, _⟩
      · rw [w4, w2] at e; rw [e]
      · rw [w4, w2] at e; rw [e]
      · rw [w4, w2] at e
        rw [w2] at hl
        rw [e, mergeH_len _ _ _ _ hl]
      · rw [hcf] at e; cases e
  have hfin := drawn_any (r := r) (S0 := S) (w0 := w) (μ0 := μ) (s0 := s0) (K := K) (B0 := B0) (n := n) hC hok hloa (B := s.H.length) (by rw [hl0]; exact Nat.le_refl _) hro oa.size m st T hist (Array.replicate oa.size false) S μ s0.H a w.drew hst0 (by simp) (by
    have : ∀ m (l : Array Bool), cntF m l ≤ m := fun m l => by
      induction m with
      | zero => exact Nat.le_refl _
      | succ m ih => simp only [cntF]; split <;> omega
    exact this _ _) (fun i y hi hy => by
    simp only [Xof, Array.getD_eq_getD_getElem?, Array.getElem?_replicate] at hi
    split at hi <;> simp at hi) g4 g6 g7 (by
    refine ⟨⟨by rw [hg0]; exact hr.1.drew, fun o ho => hr.2 o (by omega)⟩, (hlen m (Nat.le_refl _)).symm, hN, ?_, ?_, fun j _ => ?_, fun p y j hi => absurd hi (hno p), fun o _ => by rw [hst0], fun o p hi => absurd hi (hno p), fun p y _ hy hw => hr.2 _ (by omega), fun p hi => absurd hi (hno p), fun p hp hc => ?_⟩
    · rw [hst0, hg0]
      exact hdf.tr (H := hget s.H) hr.1 .drew
    · rw [hst0, hg0]
      exact .drew
    · rw [hst0]
      exact R.keep (w := w) (w' := w.drew) (fun _ h => h) (fun _ _ => rfl) (he j) (.refl _)
    · rw [g5 p (Nat.zero_le _) hp] at hc; cases hc)
  rw [hg0] at hfin
  exact wpIn_region_any hC.mixed hfin
end
end Go.V
