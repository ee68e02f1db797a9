/-
  TopFound: what its function answers.
-/
import Derived.Test.YtphcblofacfkaaaGreatNi
set_option linter.unusedVariables false
set_option linter.unusedSimpArgs false
set_option maxRecDepth 100000
set_option maxHeartbeats 4000000
section
namespace Go.Proofs.YtphcblofacfkaaaGreat
open Go.V
def rTop : List V.D → Option (Prop × V.D) := fun ds => match ds with
  | [d, .agg [.int .i64 dx, .int .i64 dy, .int .i64 dz, .rsl 6 nb g, .int .i64 sn, .int .i64 pi],
    .agg [.int .i64 h, .int .i64 f, .int .i64 f', .int .u8 px, .int .u8 py, .int .u8 pt, .int .u8 pf, .rsl 1 m w, .int .i64 xl, .int .i64 xh, .int .i64 yl, .int .i64 yh, .int .i64 sz, .rsl 5 nf fx, .rsl 6 no ow, .int .i64 bx, .int .i64 bz, .int .i64 st, .int .i64 spd, .int .i64 fu, .int .i64 lo, .int .i64 tu]] =>
    some ((VehIs d ∧ (vehOf d).fits) ∧ IM nb 6 g ∧ ((U8 m w ∧ (∀ j, j < m → 0 ≤ toI (w j 0) ∧ toI (w j 0) ≤ 255)) ∧ m ≤ 9223372036854775807 ∧ (0 ≤ px ∧ px ≤ 255) ∧ (0 ≤ py ∧ py ≤ 255) ∧ (0 ≤ pt ∧ pt ≤ 255) ∧ 0 ≤ pf ∧ pf ≤ 255) ∧ IM nf 5 fx ∧ SM no 6 ow ∧ ∀ i, i < no → (nmOf ow i).size ≤ 9223372036854775807, .tt)
  | _ => none
theorem land_num {x : Impt} {h f g : Int} {n : Nat} {a : Nat → Nat → Int} (e : (landT x h f g n a).2 = 0) :
    ((1 ≤ h ∧ h ≤ 100000000) ∧ 1 ≤ f ∧ f ≤ g ∧ g ≤ 10000) ∧ (-2000000000 ≤ x.xl ∧ x.xl ≤ x.xh ∧ x.xh ≤ 2000000000) ∧ (-2000000000 ≤ x.yl ∧ x.yl ≤ x.yh ∧ x.yh ≤ 2000000000) ∧ BandsOK n a := by
  obtain ⟨p1, p2, p3, p4, p5⟩ := landT_all e
  rw [chute_true] at p1
  rw [imp_true, side_true, side_true] at p3
  exact ⟨⟨⟨p1.1, p1.2.1⟩, p1.2.2⟩, p3.1, p3.2.1, bands_ok p2⟩
def topT (L : Impt) (nf : Nat) (fa : Nat → Nat → Int) (no : Nat) (nm : Nat → ByteArray) (oa : Nat → Nat → Int) (bx bz st spd fu lo tu : Int) : RTask :=
  ⟨L.xl, L.xh, L.yl, L.yh, 1 + (max (L.xh - L.xl) (L.yh - L.yl)).tdiv 7, nf, fa, no, nm, oa, bx, bz, st, spd, fu, lo, tu⟩
theorem nz {e : Int} (h : (!decide (e = 0)) = false) : e = 0 := by simpa using h
theorem u8_one {b : Int} (i j : Nat) (hi : i < 1) (hj : j < 1) : (fun i j => ([V.D.int .u8 b] : List V.D).getD (i * 1 + j) .top) i j = u8D (fun i => toI ((fun i j => ([V.D.int .u8 b] : List V.D).getD (i * 1 + j) .top) i 0)) i j := by
  obtain rfl : i = 0 := by omega
  obtain rfl : j = 0 := by omega
  rfl
theorem u8_bd {b : Int} (h : 0 ≤ b ∧ b ≤ 255) (j : Nat) (hj : j < 1) : 0 ≤ toI ((fun i j => ([V.D.int .u8 b] : List V.D).getD (i * 1 + j) .top) j 0) ∧ toI ((fun i j => ([V.D.int .u8 b] : List V.D).getD (i * 1 + j) .top) j 0) ≤ 255 := by
  obtain rfl : j = 0 := by omega
  exact h
theorem bd4 {x y : Int} (h : -2000000000 ≤ x ∧ x ≤ y ∧ y ≤ 2000000000) : -4000000000 ≤ x ∧ x ≤ y ∧ y ≤ 4000000000 := by omega
theorem smul_bd {b c : Int} {x y f g : Int} {i j : Nat} (h1 : -2000000000 ≤ x ∧ x ≤ y ∧ y ≤ 2000000000) (h2 : 1 ≤ f ∧ f ≤ g ∧ g ≤ 10000) (hb : 0 ≤ b ∧ b ≤ 255) (hc : 0 ≤ c ∧ c ≤ 255) :
    -9223372036854775808 ≤ shareS 1 (fun i => toI ((fun i j => ([V.D.int .u8 b] : List V.D).getD (i * 1 + j) .top) i 0)) x y i * shareS 1 (fun i => toI ((fun i j => ([V.D.int .u8 c] : List V.D).getD (i * 1 + j) .top) i 0)) f g j ∧ shareS 1 (fun i => toI ((fun i j => ([V.D.int .u8 b] : List V.D).getD (i * 1 + j) .top) i 0)) x y i * shareS 1 (fun i => toI ((fun i j => ([V.D.int .u8 c] : List V.D).getD (i * 1 + j) .top) i 0)) f g j ≤ 9223372036854775807 := by
  rw [share1, share1]
  have p := partS_in h1.2.1 hb
  have q := partS_in h2.2.1 hc
  have m := mul_in (x := partS x y b) (y := partS f g c) (A := 2000000000) (B := 10000) (by omega) (by omega) (by decide)
  exact ⟨by show _ ≤ partS x y b * partS f g c; omega, by show partS x y b * partS f g c ≤ _; omega⟩
attribute [local irreducible] landT partS windS sumD checkR cellT cellsN cellM cellsL disB goneB manyS foundT visitsN leftsN leftsL leftM visN visAt shareS
theorem top_ok : PSound Go.Proofs.Tryz.prog 3 (mk rTop) := by
  refine psound_mk Tryz.func3 (by kernel_rfl) rfl (ctxA Ltop_ok) ?_
  (intro ds p d h; unfold rTop at h; split at h <;> first | (cases h; done) | skip; cases h; refine ⟨Nat.le_of_ble_eq_true rfl, fun hp k hk => ?_⟩)
  rename_i d dx dy dz nb g sn pi h f f' px py pt pf m w' xl xh yl yh sz nf fx no ow bx bz st spd fu lo tu
  obtain ⟨⟨hv, hvf⟩, hg, ⟨⟨hw1, hw2⟩, hm, hx, hy, ht, hf⟩, hfx, how, hof⟩ := hp
  refine ⟨[(vehOf d).D, .agg [.int .i64 dx, .int .i64 dy, .int .i64 dz, .rsl 6 nb (imD (im g)), .int .i64 sn, .int .i64 pi],
    .agg [.int .i64 h, .int .i64 f, .int .i64 f', .int .u8 px, .int .u8 py, .int .u8 pt, .int .u8 pf, .rsl 1 m (u8D (fun i => toI (w' i 0))), .int .i64 xl, .int .i64 xh, .int .i64 yl, .int .i64 yh, .int .i64 sz, .rsl 5 nf (imD (im fx)), .rsl 6 no (smD (nmOf ow) (imS ow)), .int .i64 bx, .int .i64 bz, .int .i64 st, .int .i64 spd, .int .i64 fu, .int .i64 lo, .int .i64 tu]],
    veh_imp hv ⟨rfl, rfl, rfl, rfl, hg, rfl, rfl, rfl, rfl, rfl, rfl, rfl, rfl, rfl, rfl, hw1, rfl, rfl, rfl, rfl, rfl, rfl, hfx, rfl, how, rfl, rfl, rfl, rfl, rfl, rfl, rfl, ?_⟩⟩
  clear hv hg hw1 hfx how
  have hw : ∀ j, j < m → 0 ≤ (fun i => toI (w' i 0)) j ∧ (fun i => toI (w' i 0)) j ≤ 255 := hw2
  clear hw2
  generalize vehOf d = v at *
  generalize im g = a at *
  generalize (fun i => toI (w' i 0)) = w at *
  generalize im fx = fa at *
  generalize nmOf ow = nm at *
  generalize imS ow = oa at *
  repeat' (first | ((with_reducible refine kok ?_); kernel_rfl) | ((with_reducible refine keq_mk ?_); kernel_rfl) | with_reducible rfl | ((conv => whnf); first | (with_reducible exact trivial) | ((with_reducible refine and_ff ?_ ?_); · exact rfl) | ((with_reducible refine and_tt ?_ ?_); · exact rfl) | (with_reducible refine And.intro ?_ ?_) | intro _ | (with_reducible refine fin2 hk ?_) | ((with_reducible refine eq_leaf ?_); exact rfl) | exact trivial))
  all_goals try (simp only [vehOf_agg] at *; first | exact hvf.1 | exact hvf.2 _ (by assumption))
  all_goals try (exfalso; clear hk; simp only [taskOf_agg, ↓Bool.not_eq_true', ↓Bool.not_eq_false', ↓decT, ↓decF, out_true, out_false, isin_true, isin_false, Int.toNat_natCast, Int.ofNat_lt, Nat.zero_add, Nat.add_zero, Nat.reduceAdd, Decidable.not_not] at *; contradiction)
  all_goals try exact u8_one _ _ (by assumption) (by assumption)
  all_goals try exact (u8_bd hx _ (by assumption)).1
  all_goals try exact (u8_bd hx _ (by assumption)).2
  all_goals try exact (u8_bd hy _ (by assumption)).1
  all_goals try exact (u8_bd hy _ (by assumption)).2
  all_goals try exact (u8_bd hf _ (by assumption)).1
  all_goals try exact (u8_bd hf _ (by assumption)).2
  all_goals try ((first | with_reducible refine (?_ : (_ : Int) ≤ _) | with_reducible refine (?_ : (_ : Int) < _) | with_reducible refine (?_ : (_ : Nat) ≤ _)); clear hk; first | decide | (have L := land_num (nz (by assumption)); simp only at L; omega) | (simp only [taskOf_agg, ↓Bool.not_eq_true', ↓Bool.not_eq_false', ↓decT, ↓decF, out_true, out_false, isin_true, isin_false, Int.toNat_natCast, Int.ofNat_lt, Nat.zero_add, Nat.add_zero, Nat.reduceAdd] at *; omega))
  all_goals try exact (bd4 (land_num (nz (by assumption))).2.1).1
  all_goals try exact (bd4 (land_num (nz (by assumption))).2.1).2.1
  all_goals try exact (bd4 (land_num (nz (by assumption))).2.1).2.2
  all_goals try exact (bd4 (land_num (nz (by assumption))).2.2.1).1
  all_goals try exact (bd4 (land_num (nz (by assumption))).2.2.1).2.1
  all_goals try exact (bd4 (land_num (nz (by assumption))).2.2.1).2.2
  all_goals try exact (smul_bd (land_num (nz (by assumption))).2.1 (land_num (nz (by assumption))).1.2 hx hf).1
  all_goals try exact (smul_bd (land_num (nz (by assumption))).2.1 (land_num (nz (by assumption))).1.2 hx hf).2
  all_goals try exact (smul_bd (land_num (nz (by assumption))).2.2.1 (land_num (nz (by assumption))).1.2 hy hf).1
  all_goals try exact (smul_bd (land_num (nz (by assumption))).2.2.1 (land_num (nz (by assumption))).1.2 hy hf).2
  rename_i n p hn k1 k2 k3 eL
  have e0 := nz eL
  have k4 : 0 ≤ pi ∧ pi < v.nq := by simp only [taskOf_agg, ↓Bool.not_eq_true', ↓Bool.not_eq_false', ↓decT, ↓decF, out_true, out_false, isin_true, isin_false, Int.toNat_natCast, Int.ofNat_lt, Nat.zero_add, Nat.add_zero, Nat.reduceAdd] at k1 k3; omega
  clear eL k1 k2 k3
  have N := land_num e0
  have LI := land_in e0
  have DA := drift_all e0 hw hx hy ht hf (v := partS f f' pf) rfl rfl
  generalize max 1 (v.pc pi.toNat 11) = H at *
  generalize hLd : landT _ _ _ _ _ (im (imD a)) = Ld at e0 LI DA ⊢
  clear hLd
  simp only [im_imD] at N
  obtain ⟨⟨hH, h1, h2, h3⟩, X1, Y1, hb⟩ := N
  have DX : Ld.1.xl * partS f f' pf ≤ partS (p pi.toNat 1) (p pi.toNat 2) px * partS f f' pf + sumD a H m w 2 0 nb ∧ partS (p pi.toNat 1) (p pi.toNat 2) px * partS f f' pf + sumD a H m w 2 0 nb ≤ Ld.1.xh * partS f f' pf := DA.1
  have DY : Ld.1.yl * partS f f' pf ≤ partS (p pi.toNat 3) (p pi.toNat 4) py * partS f f' pf + sumD a H m w 4 1 nb ∧ partS (p pi.toNat 3) (p pi.toNat 4) py * partS f f' pf + sumD a H m w 4 1 nb ≤ Ld.1.yh * partS f f' pf := DA.2.1
  clear DA
  have VV := partS_in (lo := f) (hi := f') h2 hf
  have PX := partS_in X1.2.1 hx
  have PY := partS_in Y1.2.1 hy
  have MX := mul_in (x := partS (p pi.toNat 1) (p pi.toNat 2) px) (y := partS f f' pf) (A := 2000000000) (B := 10000) (by omega) (by omega) (by decide)
  have MY := mul_in (x := partS (p pi.toNat 3) (p pi.toNat 4) py) (y := partS f f' pf) (A := 2000000000) (B := 10000) (by omega) (by omega) (by decide)
  have S2 := fun (j : Nat) hj (i : Nat) hi => sumW_big (j := j) hb hH hj (i := i) hi
  have SX := fun (i : Nat) (hi : i ≤ nb) => sumD_in (a := a) (h := H) (o := 0) (j := 2) hw (n := i) fun k hk => (hb.x k (by omega)).2.1
  have SY := fun (i : Nat) (hi : i ≤ nb) => sumD_in (a := a) (h := H) (o := 1) (j := 4) hw (n := i) fun k hk => (hb.y k (by omega)).2.1
  conv => whnf
  refine ⟨Nat, fun i => [(3, .ptr 0 0), (4, .ptr 1 0), (5, .ptr 2 0), (9, .ptr 3 0), (10, .ptr 4 0), (11, .int .i64 (partS f f' pf)), (12, .int .i64 (partS (p pi.toNat 1) (p pi.toNat 2) px * partS f f' pf + sumD a H m w 2 0 i)), (13, .int .i64 (partS (p pi.toNat 3) (p pi.toNat 4) py * partS f f' pf + sumD a H m w 4 1 i)), (14, .int .i64 i)],
    fun i => [some (.row v.cells), some (.row [.int .i64 dx, .int .i64 dy, .int .i64 dz, .rsl 6 nb (imD a), .int .i64 sn, .int .i64 pi]), some (.row [.int .i64 h, .int .i64 f, .int .i64 f', .int .u8 px, .int .u8 py, .int .u8 pt, .int .u8 pf, .rsl 1 m (u8D w), .int .i64 xl, .int .i64 xh, .int .i64 yl, .int .i64 yh, .int .i64 sz, .rsl 5 nf (imD fa), .rsl 6 no (smD nm oa), .int .i64 bx, .int .i64 bz, .int .i64 st, .int .i64 spd, .int .i64 fu, .int .i64 lo, .int .i64 tu]),
      some (.row [.int .i64 H, .int .i64 f, .int .i64 f']),
      some (.row [.int .i64 Ld.1.pc, .int .i64 Ld.1.xl, .int .i64 Ld.1.xh, .int .i64 Ld.1.yl, .int .i64 Ld.1.yh, .int .i64 Ld.1.t0, .int .i64 Ld.1.t1]),
      none, some (.buf 5 1 1 fun i j => ([.int .u8 pf] : List V.D).getD (i * 1 + j) .top), some (.buf 5 1 1 fun i j => ([.int .u8 px] : List V.D).getD (i * 1 + j) .top), some (.buf 5 1 1 fun i j => ([.int .u8 py] : List V.D).getD (i * 1 + j) .top)],
    fun i => nb - i, fun i => i ≤ nb, [], 0, fun _ => ⟨rfl, rfl⟩, ?_, fun i hI => ?_⟩
  · clear hk
    repeat' (first | ((with_reducible refine kok ?_); kernel_rfl) | ((with_reducible refine keq_mk ?_); kernel_rfl) | with_reducible rfl | ((conv => whnf); first | (with_reducible exact trivial) | ((with_reducible refine and_ff ?_ ?_); · exact rfl) | ((with_reducible refine and_tt ?_ ?_); · exact rfl) | (with_reducible refine And.intro ?_ ?_) | intro _ | (with_reducible refine fin2 hk ?_) | ((with_reducible refine eq_leaf ?_); exact rfl) | exact trivial))
    all_goals first
      | exact Nat.zero_le _
      | exact share1 _ _ _ _
      | (rw [share1, share1]
         show _ = _ + sumD _ _ _ _ _ _ 0
         delta sumD
         exact (Int.add_zero _).symm)
      | skip
  have hi : i ≤ nb := hI
  have A2 := S2 2 (by omega) i hi
  have A3 := S2 (2 + 1) (by omega) i hi
  have A4 := S2 4 (by omega) i hi
  have A5 := S2 (4 + 1) (by omega) i hi
  have AX := SX i hi
  have AY := SY i hi
  have t1 : (2 * (i : Int)).toNat = 2 * i := by omega
  have t2 : (2 * (i : Int) + 1).toNat = 2 * i + 1 := by omega
  have eu : (fun i => toI (u8D w i 0)) = w := rfl
  have U := fun h : i < nb => And.intro (hb.up i h) (And.intro (hb.x i h) (hb.y i h))
  have WX := fun h : i < nb => windS_in (m := m) (w := w) (lo := a i 2) (hi := a i 3) (hb.x i h).2.1 hw (2 * i)
  have WY := fun h : i < nb => windS_in (m := m) (w := w) (lo := a i 4) (hi := a i 5) (hb.y i h).2.1 hw (2 * i + 1)
  have MM := fun h : i < nb => (mm_in hb hH h).2.2
  have TX := fun (h : i < nb) (q : 0 < min (a i 1) H - a i 0) => mul_in (x := windS m w (a i 2) (a i 3) (2 * i)) (y := min (a i 1) H - a i 0) (A := 20000) (B := 100000000) (by have := WX h; have := U h; omega) (by have := MM h; omega) (by decide)
  have TY := fun (h : i < nb) (q : 0 < min (a i 1) H - a i 0) => mul_in (x := windS m w (a i 4) (a i 5) (2 * i + 1)) (y := min (a i 1) H - a i 0) (A := 20000) (B := 100000000) (by have := WY h; have := U h; omega) (by have := MM h; omega) (by decide)
  have hnb := hb.len
  conv => whnf
  refine ⟨fun g2 => ?_, fun g2 => ?_⟩
  · have g4 : (i : Int) < nb := of_decide_eq_true g2
    clear DX DY LI
    repeat' (first | ((with_reducible refine kok ?_); kernel_rfl) | ((with_reducible refine keq_mk ?_); kernel_rfl) | with_reducible rfl | ((conv => whnf); first | (with_reducible exact trivial) | ((with_reducible refine and_ff ?_ ?_); · exact rfl) | ((with_reducible refine and_tt ?_ ?_); · exact rfl) | (with_reducible refine And.intro ?_ ?_) | intro _ | (with_reducible refine fin2 hk ?_) | ((with_reducible refine eq_leaf ?_); exact rfl) | exact trivial))
    all_goals try (with_reducible exact hm)
    all_goals try ((with_reducible refine (?_ : (0 : Int) ≤ toI (u8D w _ 0))); exact (hw _ (by assumption)).1)
    all_goals try ((with_reducible refine (?_ : toI (u8D w _ 0) ≤ (255 : Int))); exact (hw _ (by assumption)).2)
    all_goals try ((first | with_reducible refine (?_ : (_ : Int) ≤ _) | with_reducible refine (?_ : (_ : Int) < _)); clear hk SX SY S2 hw hb; simp only [im_imD, taskOf_agg, ↓Bool.not_eq_true', ↓Bool.not_eq_false', ↓decT, ↓decF, out_true, out_false, isin_true, isin_false, Int.toNat_natCast, Int.ofNat_lt, Nat.zero_add, Nat.add_zero, Nat.reduceAdd, t1, t2, eu] at *; first | omega | (have := U (by omega); have := WX (by omega); have := WY (by omega); have := MM (by omega); first | omega | (have := TX (by omega) (by omega); have := TY (by omega) (by omega); omega)))
    · rename_i g3
      clear hk SX SY S2 TX TY WX WY MM U hb
      have g5 : 0 < min (a i 1) H - a i 0 := of_decide_eq_true g3
      conv => whnf
      refine ⟨i + 1, ?_⟩
      repeat' (first | ((with_reducible refine kok ?_); kernel_rfl) | ((with_reducible refine keq_mk ?_); kernel_rfl) | with_reducible rfl | ((conv => whnf); first | (with_reducible exact trivial) | ((with_reducible refine and_ff ?_ ?_); · exact rfl) | ((with_reducible refine and_tt ?_ ?_); · exact rfl) | (with_reducible refine And.intro ?_ ?_) | intro _ | (with_reducible refine fin2 hk ?_) | ((with_reducible refine eq_leaf ?_); exact rfl) | exact trivial))
      all_goals first
        | (rw [sumD_pos g5]; simp only [taskOf_agg, ↓Bool.not_eq_true', ↓Bool.not_eq_false', ↓decT, ↓decF, out_true, out_false, isin_true, isin_false, Int.toNat_natCast, Int.ofNat_lt, Nat.zero_add, Nat.add_zero, Nat.reduceAdd, t1, t2, eu]; first | done | omega)
        | (show i + 1 ≤ nb; omega)
        | (show nb - (i + 1) < nb - i; omega)
        | omega
    · rename_i g3
      clear hk SX SY S2 TX TY WX WY MM U hb
      have g5 : ¬ 0 < min (a i 1) H - a i 0 := of_decide_eq_false g3
      conv => whnf
      refine ⟨i + 1, ?_⟩
      repeat' (first | ((with_reducible refine kok ?_); kernel_rfl) | ((with_reducible refine keq_mk ?_); kernel_rfl) | with_reducible rfl | ((conv => whnf); first | (with_reducible exact trivial) | ((with_reducible refine and_ff ?_ ?_); · exact rfl) | ((with_reducible refine and_tt ?_ ?_); · exact rfl) | (with_reducible refine And.intro ?_ ?_) | intro _ | (with_reducible refine fin2 hk ?_) | ((with_reducible refine eq_leaf ?_); exact rfl) | exact trivial))
      all_goals first
        | (rw [sumD_neg g5]; done)
        | (rw [sumD_neg g5]; simp only [taskOf_agg, ↓Bool.not_eq_true', ↓Bool.not_eq_false', ↓decT, ↓decF, out_true, out_false, isin_true, isin_false, Int.toNat_natCast, Int.ofNat_lt, Nat.zero_add, Nat.add_zero, Nat.reduceAdd, t1, t2, eu]; first | done | omega)
        | (show i + 1 ≤ nb; omega)
        | (show nb - (i + 1) < nb - i; omega)
        | omega
  · obtain rfl : i = nb := by have := of_decide_eq_false g2; omega
    clear S2 SX SY TX TY WX WY MM U A2 A3 A4 A5 AX AY MX MY PX PY t1 t2 eu
    generalize partS f f' pf = W0 at *
    obtain ⟨⟨l1, l2⟩, ⟨l3, l4⟩, ⟨l5, l6⟩, ⟨l7, l8⟩, l9⟩ := LI
    have L1 := mul_in (x := Ld.1.xl) (y := W0) (A := 200000000000000) (B := 10000) (by omega) (by omega) (by decide)
    have L2 := mul_in (x := Ld.1.xh) (y := W0) (A := 200000000000000) (B := 10000) (by omega) (by omega) (by decide)
    have L3 := mul_in (x := Ld.1.yl) (y := W0) (A := 200000000000000) (B := 10000) (by omega) (by omega) (by decide)
    have L4 := mul_in (x := Ld.1.yh) (y := W0) (A := 200000000000000) (B := 10000) (by omega) (by omega) (by decide)
    have BX : Ld.1.xl ≤ (partS (p pi.toNat 1) (p pi.toNat 2) px * W0 + sumD a H m w 2 0 i) / W0 ∧ (partS (p pi.toNat 1) (p pi.toNat 2) px * W0 + sumD a H m w 2 0 i) / W0 ≤ Ld.1.xh := ⟨Int.le_ediv_of_mul_le (by omega) DX.1, Int.ediv_le_of_le_mul (by omega) DX.2⟩
    have BY : Ld.1.yl ≤ (partS (p pi.toNat 3) (p pi.toNat 4) py * W0 + sumD a H m w 4 1 i) / W0 ∧ (partS (p pi.toNat 3) (p pi.toNat 4) py * W0 + sumD a H m w 4 1 i) / W0 ≤ Ld.1.yh := ⟨Int.le_ediv_of_mul_le (by omega) DY.1, Int.ediv_le_of_le_mul (by omega) DY.2⟩
    have T7 : 0 ≤ (max (Ld.1.xh - Ld.1.xl) (Ld.1.yh - Ld.1.yl)).tdiv 7 ∧ (max (Ld.1.xh - Ld.1.xl) (Ld.1.yh - Ld.1.yl)).tdiv 7 ≤ 400000000000000 := by
      rw [Int.tdiv_eq_ediv_of_nonneg (by omega)]
      omega
    repeat' (first | ((with_reducible refine kok ?_); kernel_rfl) | ((with_reducible refine keq_mk ?_); kernel_rfl) | with_reducible rfl | ((conv => whnf); first | (with_reducible exact trivial) | ((with_reducible refine and_ff ?_ ?_); · exact rfl) | ((with_reducible refine and_tt ?_ ?_); · exact rfl) | (with_reducible refine And.intro ?_ ?_) | intro _ | (with_reducible refine fin2 hk ?_) | ((with_reducible refine eq_leaf ?_); exact rfl) | exact trivial))
    all_goals (
      generalize partS (p pi.toNat 1) (p pi.toNat 2) px * W0 + sumD a H m w 2 0 i = P at *
      generalize partS (p pi.toNat 3) (p pi.toNat 4) py * W0 + sumD a H m w 4 1 i = Q at *)
    all_goals try (clear hk; omega)
    all_goals try ((first | with_reducible refine (?_ : (_ : Int) ≤ _) | with_reducible refine (?_ : (_ : Int) < _)); clear hk; simp only [taskOf_agg, ↓Bool.not_eq_true', ↓Bool.not_eq_false', ↓decT, ↓decF, out_true, out_false, isin_true, isin_false, Int.toNat_natCast, Int.ofNat_lt, Nat.zero_add, Nat.add_zero, Nat.reduceAdd] at *; omega)
    all_goals try (exfalso; clear hk; simp only [taskOf_agg, ↓Bool.not_eq_true', ↓Bool.not_eq_false', ↓decT, ↓decF, out_true, out_false, isin_true, isin_false, Int.toNat_natCast, Int.ofNat_lt, Nat.zero_add, Nat.add_zero, Nat.reduceAdd] at *; omega)
    all_goals try exact hof _ (by assumption)
    rename_i q1 q2 q3 q4
    generalize P / W0 = X at *
    generalize Q / W0 = Y at *
    obtain ⟨t, htT⟩ : ∃ t : RTask, t = (topT Ld.1 nf fa no nm oa bx bz st spd fu lo tu) := ⟨_, rfl⟩
    have g1 : (checkR t).2.2 = 0 := by rw [htT]; exact nz q2
    have hok := rt_ok g1
    have HX : t.xl ≤ X ∧ X ≤ t.xh := by rw [htT]; exact BX
    have HY : t.yl ≤ Y ∧ Y ≤ t.yh := by rw [htT]; exact BY
    have hft : ∀ i, i < t.no → (t.nm i).size ≤ 9223372036854775807 := by rw [htT]; exact hof
    have ax := hok.ax
    have ay := hok.ay
    have hX : spot X := by unfold spot; omega
    have hY : spot Y := by unfold spot; omega
    have hnf := hok.nf
    clear q1 q2 q3 q4 DX DY L1 L2 L3 L4 BX BY T7 l1 l2 l3 l4 l5 l6 l7 l8 l9 hb hw X1 Y1 VV
    conv => whnf
    refine ⟨Nat, fun k => [(16, .ptr 9 0), (17, .ptr 10 0), (18, .ptr 13 0), (19, .int .i64 k)],
      fun k => [some (.row [.top, .top, .top, .top, .top, .top]), some (.row [.top, .top, .top, .top, .top, .top]), some (.row [.top, .top, .top, .top, .top, .top, .top, .top, .top, .top, .top, .top, .top, .top, .top, .top, .top, .top, .top, .top, .top, .top]), some (.row [.top, .top, .top]), some (.row [.top, .top, .top, .top, .top, .top, .top]), none, some (.buf 5 1 1 fun i j => ([.int .u8 pf] : List V.D).getD (i * 1 + j) .top), some (.buf 5 1 1 fun i j => ([.int .u8 px] : List V.D).getD (i * 1 + j) .top), some (.buf 5 1 1 fun i j => ([.int .u8 py] : List V.D).getD (i * 1 + j) .top), some (.row [.int .i64 X, .int .i64 Y]), some (.row t.cells), none, none, some (.row [.rsl 3 (visitsN t) (imD (visN t)), .rsl 2 (leftsN t) (imD (leftM t (leftsL t)))])], fun k => t.nf - k, fun k => k ≤ t.nf ∧ anyBelow (disB t X Y) k = false, [], 0, fun _ => ⟨rfl, rfl⟩, ?_, fun k hI => ?_⟩
    · clear hk
      subst htT
      repeat' (first | ((with_reducible refine kok ?_); kernel_rfl) | ((with_reducible refine keq_mk ?_); kernel_rfl) | with_reducible rfl | ((conv => whnf); first | (with_reducible exact trivial) | ((with_reducible refine and_ff ?_ ?_); · exact rfl) | ((with_reducible refine and_tt ?_ ?_); · exact rfl) | (with_reducible refine And.intro ?_ ?_) | intro _ | (with_reducible refine fin2 hk ?_) | ((with_reducible refine eq_leaf ?_); exact rfl) | exact trivial))
      all_goals first
        | exact Nat.zero_le _
        | rfl
        | skip
    clear htT hof
    obtain ⟨hkn, hc⟩ := hI
    have hkn : k ≤ t.nf := hkn
    have hc : anyBelow (disB t X Y) k = false := hc
    conv => whnf
    refine ⟨fun g2 => ?_, fun g2 => ?_⟩
    · have g4 : k < t.nf := by have := of_decide_eq_true g2; omega
      have BI := bear_in (hok.fx k g4) hX hY
      have FB := hok.fx k g4
      have D1 : disB t X Y k = (decide (fwd (t.fx k 0) (t.fx k 1) (t.fx k 2) (t.fx k 3) X Y < 0) || decide (t.fx k 4 * fwd (t.fx k 0) (t.fx k 1) (t.fx k 2) (t.fx k 3) X Y < 1000 * max (asd (t.fx k 0) (t.fx k 1) (t.fx k 2) (t.fx k 3) X Y) (0 - asd (t.fx k 0) (t.fx k 1) (t.fx k 2) (t.fx k 3) X Y))) := by delta disB; rfl
      have e1 : t.fx k 2 * (X - t.fx k 0) + t.fx k 3 * (Y - t.fx k 1) = fwd (t.fx k 0) (t.fx k 1) (t.fx k 2) (t.fx k 3) X Y := rfl
      have e2 : t.fx k 2 * (Y - t.fx k 1) - t.fx k 3 * (X - t.fx k 0) = asd (t.fx k 0) (t.fx k 1) (t.fx k 2) (t.fx k 3) X Y := rfl
      unfold fixOK at FB
      rw [fixB_true] at FB
      unfold spot at hX hY
      repeat' (first | ((with_reducible refine kok ?_); kernel_rfl) | ((with_reducible refine keq_mk ?_); kernel_rfl) | with_reducible rfl | ((conv => whnf); first | (with_reducible exact trivial) | ((with_reducible refine and_ff ?_ ?_); · exact rfl) | ((with_reducible refine and_tt ?_ ?_); · exact rfl) | (with_reducible refine And.intro ?_ ?_) | intro _ | (with_reducible refine fin2 hk ?_) | ((with_reducible refine eq_leaf ?_); exact rfl) | exact trivial))
      all_goals try ((first | with_reducible refine (?_ : (_ : Int) ≤ _) | with_reducible refine (?_ : (_ : Int) < _)); clear hk; simp only [taskOf_agg, ↓Bool.not_eq_true', ↓Bool.not_eq_false', ↓decT, ↓decF, out_true, out_false, isin_true, isin_false, Int.toNat_natCast, Int.ofNat_lt, Nat.zero_add, Nat.add_zero, Nat.reduceAdd] at *; first | omega | (unfold fwd at *; unfold asd at *; omega))
      rename_i g5 g6
      clear hk
      simp only [taskOf_agg, ↓Bool.not_eq_true', ↓Bool.not_eq_false', ↓decT, ↓decF, out_true, out_false, isin_true, isin_false, Int.toNat_natCast, Int.ofNat_lt, Nat.zero_add, Nat.add_zero, Nat.reduceAdd, e1, e2] at g5 g6
      have hd : disB t X Y k = false := by rw [D1, decide_eq_false g5, decide_eq_false g6]; rfl
      conv => whnf
      refine ⟨k + 1, ?_⟩
      repeat' (first | ((with_reducible refine kok ?_); kernel_rfl) | ((with_reducible refine keq_mk ?_); kernel_rfl) | with_reducible rfl | ((conv => whnf); first | (with_reducible exact trivial) | ((with_reducible refine and_ff ?_ ?_); · exact rfl) | ((with_reducible refine and_tt ?_ ?_); · exact rfl) | (with_reducible refine And.intro ?_ ?_) | intro _ | (with_reducible refine fin2 hk ?_) | ((with_reducible refine eq_leaf ?_); exact rfl) | exact trivial))
      all_goals first
        | (rw [anyBelow_succ, hc, hd]; rfl)
        | omega
        | (simp only; omega)
    · have hke : k = t.nf := by have := of_decide_eq_false g2; omega
      rw [hke] at hc
      obtain ⟨c0, F⟩ := found_facts g1 HX HY hc
      have hV := visits_le g1
      have hL : leftsN t ≤ 60 := by delta leftsN; rw [if_pos g1]; exact lefts_le hok
      have hst := hok.start
      have hlk := hok.look
      have hpr : (((visitsN t : Nat) : Int) - 1).toNat = visitsN t - 1 := by omega
      repeat' (first | ((with_reducible refine kok ?_); kernel_rfl) | ((with_reducible refine keq_mk ?_); kernel_rfl) | with_reducible rfl | ((conv => whnf); first | (with_reducible exact trivial) | ((with_reducible refine and_ff ?_ ?_); · exact rfl) | ((with_reducible refine and_tt ?_ ?_); · exact rfl) | (with_reducible refine And.intro ?_ ?_) | intro _ | (with_reducible refine fin2 hk ?_) | ((with_reducible refine eq_leaf ?_); exact rfl) | exact trivial))
      all_goals try exact hft _ (by assumption)
      all_goals try (exfalso; clear hk; simp only [rtOf_agg, taskOf_agg, ↓Bool.not_eq_true', ↓Bool.not_eq_false', ↓decT, ↓decF, out_true, out_false, isin_true, isin_false, Int.toNat_natCast, Int.ofNat_lt, Nat.zero_add, Nat.add_zero, Nat.reduceAdd, Decidable.not_not] at *; contradiction)
      all_goals try (clear hk; (first | with_reducible refine (?_ : (_ : Int) ≤ _) | with_reducible refine (?_ : (_ : Int) < _)); simp only [rtOf_agg, taskOf_agg, ↓Bool.not_eq_true', ↓Bool.not_eq_false', ↓decT, ↓decF, out_true, out_false, isin_true, isin_false, Int.toNat_natCast, Int.ofNat_lt, Nat.zero_add, Nat.add_zero, Nat.reduceAdd] at *; omega)
      all_goals try (
        exfalso
        clear hk
        simp only [rtOf_agg, taskOf_agg, ↓Bool.not_eq_true', ↓Bool.not_eq_false', ↓decT, ↓decF, out_true, out_false, isin_true, isin_false, Int.toNat_natCast, Int.ofNat_lt, Nat.zero_add, Nat.add_zero, Nat.reduceAdd, hpr] at *
        rcases F with ⟨f1, f2⟩ | ⟨f1, f2, f3, f4⟩ <;> omega)
      rename_i q5 q6
      have w3 : (foundT t X Y).2 = 9 := by
        rcases F with ⟨f1, f2⟩ | ⟨f1, f2, f3, f4⟩
        · exact f1
        · exact absurd f1 (of_decide_eq_false q6)
      have F2 : ∃ i, i < leftsN t ∧ leftM t (leftsL t) i 0 = (cellT t X Y).1 := by
        rcases F with ⟨f1, f2⟩ | ⟨f1, f2, f3, f4⟩
        · exact f2
        · omega
      clear F
      conv => whnf
      refine ⟨Nat, fun i => [(18, .ptr 13 0), (23, .int .i64 (cellT t X Y).1), (25, .int .i64 9), (26, .int .i64 i)],
        fun i => [some (.row [.top, .top, .top, .top, .top, .top]), some (.row [.top, .top, .top, .top, .top, .top]), some (.row [.top, .top, .top, .top, .top, .top, .top, .top, .top, .top, .top, .top, .top, .top, .top, .top, .top, .top, .top, .top, .top, .top]), some (.row [.top, .top, .top]), some (.row [.top, .top, .top, .top, .top, .top, .top]), none, some (.buf 5 1 1 fun i j => ([.int .u8 pf] : List V.D).getD (i * 1 + j) .top), some (.buf 5 1 1 fun i j => ([.int .u8 px] : List V.D).getD (i * 1 + j) .top), some (.buf 5 1 1 fun i j => ([.int .u8 py] : List V.D).getD (i * 1 + j) .top), some (.row [.int .i64 X, .int .i64 Y]), some (.row t.cells), none, none, some (.row [.rsl 3 (visitsN t) (imD (visN t)), .rsl 2 (leftsN t) (imD (leftM t (leftsL t)))])], fun i => leftsN t - i, fun i => i ≤ leftsN t ∧ ∃ j, i ≤ j ∧ j < leftsN t ∧ leftM t (leftsL t) j 0 = (cellT t X Y).1, [], 0, fun _ => ⟨rfl, rfl⟩, ?_, fun i hI => ?_⟩
      · clear hk
        obtain ⟨j, j1, j2⟩ := F2
        repeat' (first | ((with_reducible refine kok ?_); kernel_rfl) | ((with_reducible refine keq_mk ?_); kernel_rfl) | with_reducible rfl | ((conv => whnf); first | (with_reducible exact trivial) | ((with_reducible refine and_ff ?_ ?_); · exact rfl) | ((with_reducible refine and_tt ?_ ?_); · exact rfl) | (with_reducible refine And.intro ?_ ?_) | intro _ | (with_reducible refine fin2 hk ?_) | ((with_reducible refine eq_leaf ?_); exact rfl) | exact trivial))
        all_goals first
          | exact Nat.zero_le _
          | exact ⟨j, Nat.zero_le _, j1, j2⟩
          | exact w3
          | rfl
          | skip
      obtain ⟨hi, j, hj, j1, j2⟩ := hI
      have hi : i ≤ leftsN t := hi
      repeat' (first | ((with_reducible refine kok ?_); kernel_rfl) | ((with_reducible refine keq_mk ?_); kernel_rfl) | with_reducible rfl | ((conv => whnf); first | (with_reducible exact trivial) | ((with_reducible refine and_ff ?_ ?_); · exact rfl) | ((with_reducible refine and_tt ?_ ?_); · exact rfl) | (with_reducible refine And.intro ?_ ?_) | intro _ | (with_reducible refine fin2 hk ?_) | ((with_reducible refine eq_leaf ?_); exact rfl) | exact trivial))
      all_goals try (clear hk; (first | with_reducible refine (?_ : (_ : Int) ≤ _) | with_reducible refine (?_ : (_ : Int) < _)); simp only [taskOf_agg, ↓Bool.not_eq_true', ↓Bool.not_eq_false', ↓decT, ↓decF, out_true, out_false, isin_true, isin_false, Int.toNat_natCast, Int.ofNat_lt, Nat.zero_add, Nat.add_zero, Nat.reduceAdd] at *; omega)
      all_goals try (exfalso; clear hk; simp only [taskOf_agg, ↓Bool.not_eq_true', ↓Bool.not_eq_false', ↓decT, ↓decF, out_true, out_false, isin_true, isin_false, Int.toNat_natCast, Int.ofNat_lt, Nat.zero_add, Nat.add_zero, Nat.reduceAdd] at *; omega)
      rename_i q7 q8
      clear hk
      simp only [taskOf_agg, ↓Bool.not_eq_true', ↓Bool.not_eq_false', ↓decT, ↓decF, out_true, out_false, isin_true, isin_false, Int.toNat_natCast, Int.ofNat_lt, Nat.zero_add, Nat.add_zero, Nat.reduceAdd] at q7 q8
      conv => whnf
      refine ⟨i + 1, ?_⟩
      repeat' (first | ((with_reducible refine kok ?_); kernel_rfl) | ((with_reducible refine keq_mk ?_); kernel_rfl) | with_reducible rfl | ((conv => whnf); first | (with_reducible exact trivial) | ((with_reducible refine and_ff ?_ ?_); · exact rfl) | ((with_reducible refine and_tt ?_ ?_); · exact rfl) | (with_reducible refine And.intro ?_ ?_) | intro _ | (with_reducible refine fin2 hk ?_) | ((with_reducible refine eq_leaf ?_); exact rfl) | exact trivial))
      · show i + 1 ≤ _
        omega
      · refine ⟨j, ?_, j1, j2⟩
        have : i ≠ j := fun e => by subst e; exact q8 j2
        omega
      · show _ - (i + 1) < _ - i
        omega
end Go.Proofs.YtphcblofacfkaaaGreat
end
