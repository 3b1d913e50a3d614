import Derived.Test.YtbamkkbefjgeoaaGreatRq20
import Derived.Test.YtbamkkbefjgeoaaGreatRq09
import Derived.Test.YtbamkkbefjgeoaaGreatRq05
namespace Go.Rq.Sm
open Go Go.Proofs Go.Rq
structure Sg (K : Kz -> Bool) (M : ZM) (A : ZZ) (N : Kz -> Kz × Int) (s : Int) (r : Nat) {G : Type} (g : Gm G) (ι : G -> Kz) : Prop where
 ord : ∀ a, g.mul r a = g.zero
 inj : ∀ {a b}, ι a = ι b -> a = b
 may : ∀ a, K (ι a) = true
 sui : ∀ a, (ι a).1 = s
 all : ∀ k : Kz, k.1 = s -> K k = true -> ∃ a, ι a = k
 mul : ∀ (a : G) (x : W6), x.val < r -> M (ι a) x = (ι (g.mul x.val a), 0)
 add : ∀ a b, A (ι a) (ι b) = (ι (g.add a b), 0)
 neg : ∀ a, N (ι a) = (ι (g.neg a), 0)
structure GzOk (I : Ap W6 -> Bool) (A : Ap W6 -> Ap W6 -> Ap W6 × Int) (M : Ap W6 -> W6 -> Ap W6 × Int) (N : Ap W6 -> Ap W6 × Int) (z : Ap W6) : Prop where
 zi : I z = true
 ai : ∀ {p q}, I p = true -> I q = true -> I (A p q).1 = true
 ni : ∀ {p}, I p = true -> I (N p).1 = true
 comm : ∀ {p q}, I p = true -> I q = true -> (A p q).1 = (A q p).1
 assoc : ∀ {p q t}, I p = true -> I q = true -> I t = true -> (A (A p q).1 t).1 = (A p (A q t).1).1
 zero : ∀ {p}, I p = true -> (A z p).1 = p
 inv : ∀ {p}, I p = true -> (A (N p).1 p).1 = z
 mul : ∀ {p}, I p = true -> ∃ μ : Nat -> Ap W6, μ 0 = z /\ (∀ n, μ (n + 1) = (A (μ n) p).1) /\ μ rN = z /\ ∀ x : W6, (M p x).1 = μ x.val
section
variable {K : Type} [Rg K] {iv : K -> K} {e : K -> K -> Bool} {M P : K -> W6 -> Prop} {f : Fl K}
theorem gz_of (L : Lk iv e M P f) (hlt : ∀ {x : K} {w : W6}, P x w -> w.val < pN) (C : Cv L.F f.b) : GzOk inGroup1 addP1 sumP1W negP1 zeroP1 := by
 have B := L.br hlt
 have H := B.gp C
 have pt : ∀ {p : Ap W6}, inGroup1 p = true -> checkP1 p = true /\ ∃ X : Ap K, RA P X p /\ Go.Rq.Pt f.b X /\ Go.Rq.nsm iv e X rN = ⟨0, 0, true⟩ := by
  intro p hp
  have hc : rcheck1 p = true := by
   rw [L.ing] at hp
   cases h : rcheck1 p with
   | true => rfl
   | false => rw [h] at hp; cases hp
  have hk : checkP1 p = true := by rw [L.check]; exact hc
  obtain ⟨X, h1, h2⟩ := B.pt hk
  rw [L.ingN hlt C h1 h2] at hp
  exact ⟨hk, X, h1, h2, (nsm_pt L.F h2 rN).z hp⟩
 have of : ∀ {X : Ap K} {p : Ap W6}, RA P X p -> Go.Rq.Pt f.b X -> Go.Rq.nsm iv e X rN = ⟨0, 0, true⟩ -> inGroup1 p = true := by
  intro X p h1 h2 h3
  rw [L.ingN hlt C h1 h2, h3]
 have nsum : ∀ {X Y : Ap K}, Go.Rq.Pt f.b X -> Go.Rq.Pt f.b Y -> ∀ n, Go.Rq.nsm iv e (sumA iv e X Y) n = sumA iv e (Go.Rq.nsm iv e X n) (Go.Rq.nsm iv e Y n) := by
  intro X Y hX hY n
  induction n with
  | zero => rfl
  | succ n ih =>
   have p1 := nsm_pt L.F hX n
   have p2 := nsm_pt L.F hY n
   show sumA iv e (Go.Rq.nsm iv e (sumA iv e X Y) n) (sumA iv e X Y) = sumA iv e (sumA iv e (Go.Rq.nsm iv e X n) X) (sumA iv e (Go.Rq.nsm iv e Y n) Y)
   rw [ih, sum_assoc L.F C p1 p2 (sum_pt L.F hX hY), <- sum_assoc L.F C p2 hX hY, sum_comm L.F p2 hX, sum_assoc L.F C hX p2 hY, <- sum_assoc L.F C p1 hX (sum_pt L.F p2 hY)]
 refine ⟨?_, ?_, ?_, ?_, ?_, ?_, ?_, ?_⟩
 . refine of B.zp .zero ?_
   exact nsm_zero _
 . intro p q hp hq
   obtain ⟨-, X, x1, x2, x3⟩ := pt hp
   obtain ⟨-, Y, y1, y2, y3⟩ := pt hq
   refine of (B.ad x1 y1 x2 y2).2 (sum_pt L.F x2 y2) ?_
   rw [nsum x2 y2, x3, y3]; rfl
 . intro p hp
   obtain ⟨hk, X, x1, x2, x3⟩ := pt hp
   have h := (B.ne x1 x2).2
   refine of h (neg_pt x2) ?_
   have k : sumA iv e (Go.Rq.nsm iv e (negK X) rN) (Go.Rq.nsm iv e X rN) = ⟨0, 0, true⟩ := by
    rw [<- nsum (neg_pt x2) x2, sum_comm L.F (neg_pt x2) x2, sum_neg L.F x2, nsm_zero]
   have hp2 := nsm_pt L.F (neg_pt x2) rN
   have zl : ∀ Y : Ap K, sumA iv e ⟨0, 0, true⟩ Y = Y := fun Y => rfl
   rw [x3, sum_comm L.F hp2 .zero, zl] at k
   exact k
 . intro p q hp hq
   exact H.comm p q (pt hp).1 (pt hq).1
 . intro p q t hp hq ht
   exact H.assoc p q t (pt hp).1 (pt hq).1 (pt ht).1
 . intro p hp
   have hk := (pt hp).1
   have h := H.comm zeroP1 p H.zc hk
   rw [show (addP1 zeroP1 p).1 = (addP1 p zeroP1).1 from h]
   exact H.zero p hk
 . intro p hp
   have hk := (pt hp).1
   have h := H.comm (negP1 p).1 p (H.ne p hk).2 hk
   rw [show (addP1 (negP1 p).1 p).1 = (addP1 p (negP1 p).1).1 from h]
   exact H.neg p hk
 . intro p hp
   obtain ⟨hk, X, x1, x2, x3⟩ := pt hp
   have ex : ∀ n, ∃ q : Ap W6, RA P (Go.Rq.nsm iv e X n) q := by
    intro n
    induction n with
    | zero => exact ⟨_, B.zp⟩
    | succ n ih =>
     obtain ⟨q, hq⟩ := ih
     exact ⟨_, (B.ad hq x1 (nsm_pt L.F x2 n) x2).2⟩
   obtain ⟨μ, hμ⟩ : ∃ μ : Nat -> Ap W6, ∀ n, RA P (Go.Rq.nsm iv e X n) (μ n) := ⟨fun n => Classical.choose (ex n), fun n => Classical.choose_spec (ex n)⟩
   refine ⟨μ, B.inj (hμ 0) B.zp, fun n => ?_, ?_, fun x => ?_⟩
   . exact B.inj (hμ (n + 1)) (B.ad (hμ n) x1 (nsm_pt L.F x2 n) x2).2
   . have h := hμ rN
     rw [x3] at h
     exact B.inj h B.zp
   . exact B.inj (L.nsm hlt C x1 x2 x).2 (hμ x.val)
end
theorem gz_ex : GzOk inGroup1 addP1 sumP1W negP1 zeroP1 := by
 obtain ⟨b, L, C⟩ := link1c
 exact gz_of L rp_lt C
def gzT (I : Ap W6 -> Bool) : Type := {p : Ap W6 // I p = true}
section
variable {I : Ap W6 -> Bool} {A : Ap W6 -> Ap W6 -> Ap W6 × Int} {M : Ap W6 -> W6 -> Ap W6 × Int} {N : Ap W6 -> Ap W6 × Int} {z : Ap W6}
def gzG (h : GzOk I A M N z) : Gm (gzT I) where
 add a b := ⟨(A a.1 b.1).1, h.ai a.2 b.2⟩
 zero := ⟨z, h.zi⟩
 neg a := ⟨(N a.1).1, h.ni a.2⟩
 comm a b := Subtype.ext (h.comm a.2 b.2)
 assoc a b c := Subtype.ext (h.assoc a.2 b.2 c.2)
 nought a := Subtype.ext (h.zero a.2)
 inv a := Subtype.ext (h.inv a.2)
theorem gz_mul (h : GzOk I A M N z) (a : gzT I) : (∀ x : W6, (M a.1 x).1 = ((gzG h).mul x.val a).1) /\ (gzG h).mul rN a = (gzG h).zero := by
 obtain ⟨μ, m0, m1, m2, m3⟩ := h.mul a.2
 have k : ∀ n, ((gzG h).mul n a).1 = μ n := by
  intro n
  induction n with
  | zero => exact m0.symm
  | succ n ih =>
   rw [m1, <- ih]; rfl
 refine ⟨fun x => by rw [m3, k], Subtype.ext ?_⟩
 rw [k, m2]; rfl
def gzI (a : gzT I) : Kz := (0, ofAp a.1, zLx)
theorem kch_gz (a : gzT I) : kchX (fun p => I (toAp p)) (toKx (gzI a)) = true := by
 show (bif eqLz zLx then I (toAp (ofAp a.1)) else false) = true
 rw [zLx_is, cond_true, toAp_ofAp, a.2]
theorem ky1_gz (a : gzT I) {x : W6} (hx : x.val < rN) : ky1 (kchX (fun p => I (toAp p))) ordX cmpX x (toKx (gzI a)) = 0 := by
 unfold ky1
 rw [kch_gz]
 have e : ordX (toKx (gzI a)).1 = rWx := rfl
 rw [e, cmpX_ge (by rw [rWx_val]; exact hx)]
 simp
theorem ky2_gz (a b : gzT I) : ky2 (kchX (fun p => I (toAp p))) ordX cmpX zW6 (toKx (gzI a)) (toKx (gzI b)) = 0 := by
 unfold ky2
 rw [kch_gz, kch_gz]
 have e : ordX (toKx (gzI a)).1 = rWx := rfl
 have e2 : (toKx (gzI a)).1.int = (toKx (gzI b)).1.int := rfl
 rw [e, cmpX_ge (by rw [rWx_val]; exact rN_pos), e2]
 simp
theorem eqLz_iff {l : Lx} (h : eqLz l = true) : l = zLx := by
 obtain ⟨a, b, c⟩ := l
 simp only [eqLz, Bool.and_eq_true, beq_iff_eq, and_true] at h
 obtain ⟨rfl, rfl, rfl⟩ := h
 rfl
theorem sg_gr (h : GzOk I A M N z) :
 Sg (fun a => kchX (fun p => I (toAp p)) (toKx a)) (kmuX (fun p => I (toAp p)) (fun p n => ofE (M (toAp p) n))) (kadX (fun p => I (toAp p)) (fun p q => ofE (A (toAp p) (toAp q))))
  (kneX (fun p => I (toAp p)) (fun p => ofE (N (toAp p)))) 0 rN (gzG h) gzI where
 ord a := (gz_mul h a).2
 inj {a b} hh := by
  have hh : ofAp a.1 = ofAp b.1 := (Prod.mk.inj (Prod.mk.inj hh).2).1
  apply Subtype.ext
  rw [<- toAp_ofAp a.1, hh, toAp_ofAp]
 may a := kch_gz a
 sui a := rfl
 all k hs hk := by
  obtain ⟨s, p, l⟩ := k
  have hs : s = 0 := hs
  subst hs
  have hk : (bif eqLz l then I (toAp p) else false) = true := hk
  cases hl : eqLz l with
  | false => rw [hl] at hk; cases hk
  | true =>
   rw [hl, cond_true] at hk
   refine ⟨⟨toAp p, hk⟩, ?_⟩
   rw [eqLz_iff hl]
   rfl
 mul a x hx := by
  unfold kmuX kmuG
  rw [ky1_gz a hx]
  show (((0 : Int), ofAp (M (toAp (ofAp a.1)) x).1, zLx), (0 : Int)) = _
  rw [toAp_ofAp, (gz_mul h a).1]
  rfl
 add a b := by
  unfold kadX kadG
  rw [ky2_gz a b]
  show (((0 : Int), ofAp (A (toAp (ofAp a.1)) (toAp (ofAp b.1))).1, zLx), (0 : Int)) = _
  rw [toAp_ofAp, toAp_ofAp]
  rfl
 neg a := by
  unfold kneX kneG
  rw [ky1_gz a (x := zW6) rN_pos]
  show (((0 : Int), ofAp (N (toAp (ofAp a.1))).1, zLx), (0 : Int)) = _
  rw [toAp_ofAp]
  rfl
end
section
variable (s : Su)
theorem in_iff {p : Lp} : inF s p = true ↔ ∃ A : Ap (Fsu s), p = wp A /\ Cw.Pt A /\ Cw.nsm ivF eqF A (suRn s) = ⟨0, 0, true⟩ := by
 unfold inF
 constructor
 . intro h
   cases ho : onF s p with
   | false => rw [ho] at h; cases h
   | true =>
    rw [ho, cond_true] at h
    obtain ⟨A, h1, h2⟩ := on_iff.1 ho
    subst h1
    rw [lTimes_wp h2, suR_nat] at h
    exact ⟨A, rfl, h2, (Cw.nsm_pt (fdS s) h2 _).z h⟩
 . rintro ⟨A, rfl, h2, h3⟩
   rw [on_iff.2 ⟨A, rfl, h2⟩, cond_true, lTimes_wp h2, suR_nat, h3]
   rfl
theorem nsum_lit {X Y : Ap (Fsu s)} (hX : Cw.Pt X) (hY : Cw.Pt Y) (n : Nat) : Cw.nsm ivF eqF (Cw.sumW ivF eqF X Y) n = Cw.sumW ivF eqF (Cw.nsm ivF eqF X n) (Cw.nsm ivF eqF Y n) := by
 have F := fdS s
 induction n with
 | zero => rfl
 | succ n ih =>
  have p1 := Cw.nsm_pt F hX n
  have p2 := Cw.nsm_pt F hY n
  show Cw.sumW ivF eqF (Cw.nsm ivF eqF (Cw.sumW ivF eqF X Y) n) (Cw.sumW ivF eqF X Y) = Cw.sumW ivF eqF (Cw.sumW ivF eqF (Cw.nsm ivF eqF X n) X) (Cw.sumW ivF eqF (Cw.nsm ivF eqF Y n) Y)
  rw [ih, Cw.sum_assoc F p1 p2 (Cw.sum_pt F hX hY), <- Cw.sum_assoc F p2 hX hY, Cw.sum_comm F p2 hX, Cw.sum_assoc F hX p2 hY, <- Cw.sum_assoc F p1 hX (Cw.sum_pt F p2 hY)]
def glT : Type := {p : Lp // inF s p = true}
theorem zl_lit (Y : Ap (Fsu s)) : Cw.sumW ivF eqF (⟨0, 0, true⟩ : Ap (Fsu s)) Y = Y := rfl
noncomputable def glG : Gm (glT s) where
 add a b := ⟨lSum s a.1 b.1, by
  obtain ⟨X, x1, x2, x3⟩ := (in_iff s).1 a.2
  obtain ⟨Y, y1, y2, y3⟩ := (in_iff s).1 b.2
  rw [x1, y1, lSum_wp x2 y2]
  exact (in_iff s).2 ⟨_, rfl, Cw.sum_pt (fdS s) x2 y2, by rw [nsum_lit s x2 y2, x3, y3]; rfl⟩⟩
 zero := ⟨lp0, (in_iff s).2 ⟨⟨0, 0, true⟩, wp_zero.symm, .zero, Cw.nsm_zero _⟩⟩
 neg a := ⟨(a.1.1, lSub s 0#64 a.1.2.1, a.1.2.2), by
  obtain ⟨X, x1, x2, x3⟩ := (in_iff s).1 a.2
  rw [x1, lneg_wp]
  refine (in_iff s).2 ⟨_, rfl, Cw.neg_pt x2, ?_⟩
  have hp2 := Cw.nsm_pt (fdS s) (Cw.neg_pt x2) (suRn s)
  have k : Cw.sumW ivF eqF (Cw.nsm ivF eqF (negK X) (suRn s)) (Cw.nsm ivF eqF X (suRn s)) = ⟨0, 0, true⟩ := by
   rw [<- nsum_lit s (Cw.neg_pt x2) x2, Cw.sum_comm (fdS s) (Cw.neg_pt x2) x2, Cw.sum_neg (fdS s) x2, Cw.nsm_zero]
  rw [x3, Cw.sum_comm (fdS s) hp2 .zero, zl_lit] at k
  exact k⟩
 comm a b := Subtype.ext (by
  obtain ⟨X, x1, x2, x3⟩ := (in_iff s).1 a.2
  obtain ⟨Y, y1, y2, y3⟩ := (in_iff s).1 b.2
  show lSum s a.1 b.1 = lSum s b.1 a.1
  rw [x1, y1, lSum_wp x2 y2, lSum_wp y2 x2, Cw.sum_comm (fdS s) x2 y2])
 assoc a b c := Subtype.ext (by
  obtain ⟨X, x1, x2, x3⟩ := (in_iff s).1 a.2
  obtain ⟨Y, y1, y2, y3⟩ := (in_iff s).1 b.2
  obtain ⟨Z, z1, z2, z3⟩ := (in_iff s).1 c.2
  show lSum s (lSum s a.1 b.1) c.1 = lSum s a.1 (lSum s b.1 c.1)
  rw [x1, y1, z1, lSum_wp x2 y2, lSum_wp y2 z2, lSum_wp (Cw.sum_pt (fdS s) x2 y2) z2, lSum_wp x2 (Cw.sum_pt (fdS s) y2 z2), Cw.sum_assoc (fdS s) x2 y2 z2])
 nought a := Subtype.ext (by
  obtain ⟨X, x1, x2, x3⟩ := (in_iff s).1 a.2
  show lSum s lp0 a.1 = a.1
  rw [x1, <- wp_zero (s := s), lSum_wp .zero x2, zl_lit])
 inv a := Subtype.ext (by
  obtain ⟨X, x1, x2, x3⟩ := (in_iff s).1 a.2
  show lSum s (a.1.1, lSub s 0#64 a.1.2.1, a.1.2.2) a.1 = lp0
  rw [x1, lneg_wp, lSum_wp (Cw.neg_pt x2) x2, Cw.sum_comm (fdS s) (Cw.neg_pt x2) x2, Cw.sum_neg (fdS s) x2, wp_zero])
theorem gl_mul (a : glT s) : (∀ x : BitVec 64, lTimes s a.1 x = ((glG s).mul x.toNat a).1) /\ (glG s).mul (suRn s) a = (glG s).zero := by
 obtain ⟨X, x1, x2, x3⟩ := (in_iff s).1 a.2
 have k : ∀ n, ((glG s).mul n a).1 = wp (Cw.nsm ivF eqF X n) := by
  intro n
  induction n with
  | zero => exact wp_zero.symm
  | succ n ih =>
   show lSum s ((glG s).mul n a).1 a.1 = wp (Cw.sumW ivF eqF (Cw.nsm ivF eqF X n) X)
   rw [ih, x1, lSum_wp (Cw.nsm_pt (fdS s) x2 n) x2]
 refine ⟨fun x => by rw [k, x1, lTimes_wp x2], Subtype.ext ?_⟩
 rw [k, x3, wp_zero]; rfl
def glI (a : glT s) : Kz := ((suSx s).int, zPx, a.1)
theorem glI_kx (a : glT s) : toKx (glI s a) = (suSx s, zPx, a.1) := by
 unfold toKx glI
 rw [Sx.of_int]
theorem kch_gl (I : Px -> Bool) (a : glT s) : kchX I (toKx (glI s a)) = true := by
 rw [glI_kx]
 have h := a.2
 cases s
 . show (bif eqPx zPx then inF .lit a.1 else false) = true
   rw [zPx_is, cond_true, h]
 . show (bif eqPx zPx then inF .mid a.1 else false) = true
   rw [zPx_is, cond_true, h]
theorem ky1_gl (I : Px -> Bool) (a : glT s) {x : W6} (h : x.val < suRn s) : ky1 (kchX I) ordX cmpX x (suSx s, zPx, a.1) = 0 := by
 unfold ky1
 rw [<- glI_kx, kch_gl, glI_kx]
 dsimp only
 rw [cmpX_ge (by rw [ordX_val]; exact h)]
 simp
theorem ky2_gl (I : Px -> Bool) (a b : glT s) : ky2 (kchX I) ordX cmpX zW6 (suSx s, zPx, a.1) (suSx s, zPx, b.1) = 0 := by
 unfold ky2
 rw [<- glI_kx, <- glI_kx, kch_gl, kch_gl, glI_kx, glI_kx]
 dsimp only
 rw [cmpX_ge (by rw [ordX_val]; exact suRn_pos s)]
 simp
theorem eqPx_iff {p : Px} (h : eqPx p = true) : p = zPx := by
 obtain ⟨⟨a0, a1, a2, a3, a4, a5⟩, ⟨b0, b1, b2, b3, b4, b5⟩, c⟩ := p
 simp only [eqPx, eqW6, Bool.and_eq_true, beq_iff_eq, and_true] at h
 obtain ⟨rfl, rfl, rfl, rfl, rfl, rfl, rfl, rfl, rfl, rfl, rfl, rfl, rfl⟩ := h
 rfl
theorem sg_lit (I : Px -> Bool) (A1 : Px -> Px -> Px × Int) (M1 : Px -> W6 -> Px × Int) (N1 : Px -> Px × Int) :
 Sg (fun a => kchX I (toKx a)) (kmuX I M1) (kadX I A1) (kneX I N1) (suSx s).int (suRn s) (glG s) (glI s) where
 ord a := (gl_mul s a).2
 inj {a b} hh := Subtype.ext (Prod.mk.inj (Prod.mk.inj hh).2).2
 may a := kch_gl s I a
 sui a := rfl
 all k hs hk := by
  obtain ⟨n, p, l⟩ := k
  have hs : n = (suSx s).int := hs
  subst hs
  have e : toKx ((suSx s).int, p, l) = (suSx s, p, l) := by unfold toKx; rw [Sx.of_int]
  rw [e] at hk
  have hk : (bif eqPx p then inF s l else false) = true := by cases s <;> exact hk
  cases hl : eqPx p with
  | false => rw [hl] at hk; cases hk
  | true =>
   rw [hl, cond_true] at hk
   exact ⟨⟨l, hk⟩, by rw [eqPx_iff hl]; rfl⟩
 mul a x h := by
  unfold kmuX kmuG
  rw [glI_kx, ky1_gl s I a h]
  have e : lTimes s a.1 x.w0 = ((glG s).mul x.val a).1 := by rw [(gl_mul s a).1, w0_val (Nat.lt_trans h (suRn_lt s))]
  cases s
  . show (((1 : Int), zPx, lTimes .lit a.1 x.w0), (0 : Int)) = _
    rw [e]; rfl
  . show (((2 : Int), zPx, lTimes .mid a.1 x.w0), (0 : Int)) = _
    rw [e]; rfl
 add a b := by
  unfold kadX kadG
  rw [glI_kx, glI_kx, ky2_gl s I a b]
  cases s <;> rfl
 neg a := by
  unfold kneX kneG
  rw [glI_kx, ky1_gl s I a (x := zW6) (suRn_pos s)]
  cases s <;> rfl
end
end Go.Rq.Sm

namespace Go.Rq.Rf
open Go Go.Proofs Go.Rq Go.Rq.Sm
noncomputable def ofG : List AV -> Option (Bool × AV) := inlineG PR (envOf eqsT []) [] 10 72
theorem of_ctx : Ctx PR (envOf eqsT []) [] (fun _ => none) 10 72 :=
 ctxB (envOf_ok eqsT_ok TabPOk.nil) mixed (by kernel_rfl)
theorem ofG_ok : CallOk PR 72 ofG := .inl ⟨entersB (by kernel_rfl), inline_ok of_ctx⟩
def isF (i : Int) : Bool := bif decide (i >= 0) then decide (i <= 2) else false
theorem is_run (i : Int) : valS (afunR PR (envOf eqsT []) [5] (fun _ => none) 10 18 [(kInt .i64).enc i]) = some (kBool.val (isF i)) := by kernel_rfl
theorem is_ctx : Ctx PR (envOf eqsT []) [5] (fun _ => none) 10 18 :=
 ctxB (envOf_ok eqsT_ok TabPOk.nil) mixed (by kernel_rfl)
theorem is_ok : CallOk PR 18 (fn1 (kInt .i64) kBool isF) := .inl ⟨entersB (by kernel_rfl), pure1 is_ctx fun i => givesV (is_run i)⟩
abbrev LB : Type := Su -> Lp -> Bool
noncomputable def myE (I : Px -> Bool) (L : LB) : Env := envA eqsT [(86, fn1 cPx.agg kBool I), (72, ofG), (87, fn2 kCv cLp.agg kBool L)] [] [] [] [] [] true []
def myF (I : Px -> Bool) (L : LB) : Kx -> Bool
 | (.gr, p, l) => bif eqLz l then I p else false
 | (.li, p, l) => bif eqPx p then L .lit l else false
 | (.mi, p, l) => bif eqPx p then L .mid l else false
 | _ => false
theorem my_run (I : Px -> Bool) (L : LB) (k : Kx) : valS (afunR PR (myE I L) [12, 24, 30] (fun _ => none) 10 44 [cKx.agg.enc k]) = some (kBool.val (myF I L k)) := by
 obtain ⟨s, p, l⟩ := k
 cases s <;> kernel_rfl
theorem my_ok {I : Px -> Bool} {L : LB} (hI : CallOk PR 86 (fn1 cPx.agg kBool I)) (hL : CallOk PR 87 (fn2 kCv cLp.agg kBool L)) : CallOk PR 44 (fn1 cKx.agg kBool (myF I L)) :=
 .inl ⟨entersB (by kernel_rfl), pure1 (ctxB (E := myE I L) (envA_ok eqsT_ok (TabPOk.cons hI (TabPOk.cons ofG_ok (TabPOk.cons hL TabPOk.nil))) TabHOk.nil TabLOk.nil TabAOk.nil) mixed (by kernel_rfl)) fun k => givesV (my_run I L k)⟩
def knX : Sx -> Bool
 | .gr => true
 | .li => true
 | .mi => true
 | _ => false
abbrev L2 : Type := Su -> Lp -> Lp -> Lp
abbrev LN : Type := Su -> Lp -> Lp
abbrev LT : Type := Su -> Lp -> BitVec 64 -> Lp
noncomputable def adE (A : Px -> Px -> Px) (S : L2) : Env := envA eqsT [(71, fn2 cPx.agg cPx.agg cPx.agg A), (72, ofG), (73, fn3 kCv cLp.agg cLp.agg cLp.agg S)] [] [] [] [] [] true []
def adF (A : Px -> Px -> Px) (S : L2) : Kx -> Kx -> Kx
 | (.gr, p, _), (_, q, _) => (.gr, A p q, zLx)
 | (.li, _, l), (_, _, m) => (.li, zPx, S .lit l m)
 | (.mi, _, l), (_, _, m) => (.mi, zPx, S .mid l m)
 | _, _ => zKx
theorem ad_run (A : Px -> Px -> Px) (S : L2) (a b : Kx) (h : knX a.1 = true) : valS (afunR PR (adE A S) [] (fun _ => none) 10 34 [cKx.agg.enc a, cKx.agg.enc b]) = some (cKx.agg.val (adF A S a b)) := by
 obtain ⟨s, p, l⟩ := a
 obtain ⟨t, q, m⟩ := b
 cases s <;> first | (exfalso; simp [knX] at h; done) | kernel_rfl
theorem ad_ok {A : Px -> Px -> Px} {S : L2} (hA : CallOk PR 71 (fn2 cPx.agg cPx.agg cPx.agg A)) (hS : CallOk PR 73 (fn3 kCv cLp.agg cLp.agg cLp.agg S)) : CallOk PR 34 (fnQ2 cKx.agg cKx.agg cKx.agg (fun a _ => knX a.1) (adF A S)) :=
 .inl ⟨entersB (by kernel_rfl), pureQ2 (ctxB (E := adE A S) (envA_ok eqsT_ok (TabPOk.cons hA (TabPOk.cons ofG_ok (TabPOk.cons hS TabPOk.nil))) TabHOk.nil TabLOk.nil TabAOk.nil) mixed (by kernel_rfl)) fun a b h => givesV (ad_run A S a b h)⟩
noncomputable def neE (N : Px -> Px) (S : LN) : Env := envA eqsT [(90, fn1 cPx.agg cPx.agg N), (72, ofG), (91, fn2 kCv cLp.agg cLp.agg S)] [] [] [] [] [] true []
def neF (N : Px -> Px) (S : LN) : Kx -> Kx
 | (.gr, p, _) => (.gr, N p, zLx)
 | (.li, _, l) => (.li, zPx, S .lit l)
 | (.mi, _, l) => (.mi, zPx, S .mid l)
 | _ => zKx
theorem ne_run (N : Px -> Px) (S : LN) (a : Kx) (h : knX a.1 = true) : valS (afunR PR (neE N S) [] (fun _ => none) 10 46 [cKx.agg.enc a]) = some (cKx.agg.val (neF N S a)) := by
 obtain ⟨s, p, l⟩ := a
 cases s <;> first | (exfalso; simp [knX] at h; done) | kernel_rfl
theorem ne_ok {N : Px -> Px} {S : LN} (hN : CallOk PR 90 (fn1 cPx.agg cPx.agg N)) (hS : CallOk PR 91 (fn2 kCv cLp.agg cLp.agg S)) : CallOk PR 46 (fnQ1 cKx.agg cKx.agg (fun a => knX a.1) (neF N S)) :=
 .inl ⟨entersB (by kernel_rfl), pureQ1 (ctxB (E := neE N S) (envA_ok eqsT_ok (TabPOk.cons hN (TabPOk.cons ofG_ok (TabPOk.cons hS TabPOk.nil))) TabHOk.nil TabLOk.nil TabAOk.nil) mixed (by kernel_rfl)) fun a h => givesV (ne_run N S a h)⟩
noncomputable def muE (M : Px -> W6 -> Px) (T : LT) : Env := envA eqsT [(88, fn2 cPx.agg c6.agg cPx.agg M), (72, ofG), (89, fn3 kCv cLp.agg kU cLp.agg T)] [] [] [] [] [] true []
def muF (M : Px -> W6 -> Px) (T : LT) : Kx -> W6 -> Kx
 | (.gr, p, _), n => (.gr, M p n, zLx)
 | (.li, _, l), n => (.li, zPx, T .lit l n.w0)
 | (.mi, _, l), n => (.mi, zPx, T .mid l n.w0)
 | _, _ => zKx
theorem mu_run (M : Px -> W6 -> Px) (T : LT) (a : Kx) (n : W6) (h : knX a.1 = true) : valS (afunR PR (muE M T) [] (fun _ => none) 10 45 [cKx.agg.enc a, c6.agg.enc n]) = some (cKx.agg.val (muF M T a n)) := by
 obtain ⟨s, p, l⟩ := a
 cases s <;> first | (exfalso; simp [knX] at h; done) | kernel_rfl
theorem mu_ok {M : Px -> W6 -> Px} {T : LT} (hM : CallOk PR 88 (fn2 cPx.agg c6.agg cPx.agg M)) (hT : CallOk PR 89 (fn3 kCv cLp.agg kU cLp.agg T)) : CallOk PR 45 (fnQ2 cKx.agg c6.agg cKx.agg (fun a _ => knX a.1) (muF M T)) :=
 .inl ⟨entersB (by kernel_rfl), pureQ2 (ctxB (E := muE M T) (envA_ok eqsT_ok (TabPOk.cons hM (TabPOk.cons ofG_ok (TabPOk.cons hT TabPOk.nil))) TabHOk.nil TabLOk.nil TabAOk.nil) mixed (by kernel_rfl)) fun a n h => givesV (mu_run M T a n h)⟩
noncomputable def orE (O : W6) : Env := envOf eqsT [(92, fn0 c6.agg O), (72, ofG)]
def orF (O : W6) : Sx -> W6
 | .gr => O
 | .li => ofW 65521#64
 | .mi => ofW 72057594037927889#64
 | _ => zW6
theorem or_run (O : W6) (s : Sx) : valS (afunR PR (orE O) [] (fun _ => none) 10 48 [kSx.enc s]) = some (c6.agg.val (orF O s)) := by cases s <;> kernel_rfl
theorem or_ok {O : W6} (h : CallOk PR 92 (fn0 c6.agg O)) : CallOk PR 48 (fn1 kSx c6.agg (orF O)) :=
 .inl ⟨entersB (by kernel_rfl), pure1 (ctxB (E := orE O) (envOf_ok eqsT_ok (TabPOk.cons h (TabPOk.cons ofG_ok TabPOk.nil))) mixed (by kernel_rfl)) fun s => givesV (or_run O s)⟩
def scE (O : Sx -> W6) (C : W6 -> W6 -> Int) : Env := envOf eqsT [(48, fn1 kSx c6.agg O), (47, fn2 c6.agg c6.agg (kInt .i64) C)]
def scF (O : Sx -> W6) (C : W6 -> W6 -> Int) (s : Sx) (a : W6) : Bool := decide (C a (O s) < 0)
theorem sc_run (O : Sx -> W6) (C : W6 -> W6 -> Int) (s : Sx) (a : W6) : valS (afunR PR (scE O C) [] (fun _ => none) 10 19 [kSx.enc s, c6.agg.enc a]) = some (kBool.val (scF O C s a)) := by cases s <;> kernel_rfl
theorem sc_ok {O : Sx -> W6} {C : W6 -> W6 -> Int} (hO : CallOk PR 48 (fn1 kSx c6.agg O)) (hC : CallOk PR 47 (fn2 c6.agg c6.agg (kInt .i64) C)) : CallOk PR 19 (fn2 kSx c6.agg kBool (scF O C)) :=
 .inl ⟨entersB (by kernel_rfl), pure2 (ctxB (E := scE O C) (envOf_ok eqsT_ok (TabPOk.cons hO (TabPOk.cons hC TabPOk.nil))) mixed (by kernel_rfl)) fun s a => givesV (sc_run O C s a)⟩
theorem fnS2t {γ β : Type} {C : Cod γ} {B : Cod β} {F : Sx -> γ -> β} : fn2 kSx C B F = fn2 (kInt .i64) C B (fun i => F (Sx.of i)) := by
 funext args
 unfold fn2
 split
 . rename_i a c
   have e : kSx.dec a = ((kInt .i64).dec a).map Sx.of := by
    have e0 : kSx.dec a = (match (kInt .i64).dec a with
     | some i => some (Sx.of i)
     | none => none) := rfl
    rw [e0]
    cases (kInt .i64).dec a <;> rfl
   rw [e]
   cases (kInt .i64).dec a with
   | none => rfl
   | some x => cases C.dec c <;> rfl
 . rfl
theorem fnKQ1 {β β' : Type} {B : Cod β} {B' : Cod β'} {Q : Kx -> Bool} {F : Kx -> β} {ψ : β -> β'} (hB : ∀ y, B.enc y = B'.enc (ψ y)) : fnQ1 cKx.agg B Q F = fnQ1 cKz.agg B' (fun a => Q (toKx a)) (fun a => ψ (F (toKx a))) := by
 funext args
 unfold fnQ1
 split
 . rename_i a
   rw [decK]
   cases cKz.agg.dec a with
   | none => rfl
   | some x => simp only [Option.map, hB]
 . rfl
theorem fnKQ1c {γ β β' : Type} {D : Cod γ} {B : Cod β} {B' : Cod β'} {Q : Kx -> γ -> Bool} {F : Kx -> γ -> β} {ψ : β -> β'} (hB : ∀ y, B.enc y = B'.enc (ψ y)) : fnQ2 cKx.agg D B Q F = fnQ2 cKz.agg D B' (fun a d => Q (toKx a) d) (fun a d => ψ (F (toKx a) d)) := by
 funext args
 unfold fnQ2
 split
 . rename_i a d
   rw [decK]
   cases cKz.agg.dec a with
   | none => rfl
   | some x => cases D.dec d <;> simp only [Option.map, hB]
 . rfl
theorem fnKQ2 {β β' : Type} {B : Cod β} {B' : Cod β'} {Q : Kx -> Kx -> Bool} {F : Kx -> Kx -> β} {ψ : β -> β'} (hB : ∀ y, B.enc y = B'.enc (ψ y)) : fnQ2 cKx.agg cKx.agg B Q F = fnQ2 cKz.agg cKz.agg B' (fun a b => Q (toKx a) (toKx b)) (fun a b => ψ (F (toKx a) (toKx b))) := by
 funext args
 unfold fnQ2
 split
 . rename_i a b
   rw [decK, decK]
   cases cKz.agg.dec a with
   | none => rfl
   | some x => cases cKz.agg.dec b <;> simp only [Option.map, hB]
 . rfl
noncomputable def wrE (K : Kz -> Bool) (S : Int -> W6 -> Bool) : Env := envA eqsT [(44, fn1 cKz.agg kBool K), (19, fn2 (kInt .i64) c6.agg kBool S)] [] [] [] [] [] true []
noncomputable def wrV (K : Kz -> Bool) (S : Int -> W6 -> Bool) : List AV -> AH -> Option (Bool × AV × AH) := viewS PR (wrE K S) [21, 37, 53] 20 15
theorem wr_ent : Enters PR 15 := entersB (by kernel_rfl)
theorem wr_ok {K : Kz -> Bool} {S : Int -> W6 -> Bool} (hK : CallOk PR 44 (fn1 cKz.agg kBool K)) (hS : CallOk PR 19 (fn2 (kInt .i64) c6.agg kBool S)) : HeapOk PR 15 (wrV K S) :=
 viewS_ok (ctxB (E := wrE K S) (envA_ok eqsT_ok (TabPOk.cons hK (TabPOk.cons hS TabPOk.nil)) TabHOk.nil TabLOk.nil TabAOk.nil) mixed (by kernel_rfl))
def wc2 (S : Int -> W6 -> Bool) (s : Int) (x y : W6) : Int := bif !S s x then 2 else bif !S s y then 2 else 0
def wr2 (K : Kz -> Bool) (S : Int -> W6 -> Bool) (a b : Kz) (x y : W6) : Int :=
 bif !K a then 5 else bif !K b then 5 else bif a.1 != a.1 then 2 else bif b.1 != a.1 then 2 else wc2 S a.1 x y
def wr3 (K : Kz -> Bool) (S : Int -> W6 -> Bool) (a b d : Kz) (x y : W6) : Int :=
 bif !K a then 5 else bif !K b then 5 else bif !K d then 5 else bif a.1 != a.1 then 2 else bif b.1 != a.1 then 2 else bif d.1 != a.1 then 2 else wc2 S a.1 x y
structure KQ where
 q1 : Kz -> Bool
 ad : Kz -> Kz -> Kz
 mu : Kz -> W6 -> Kz
 ne : Kz -> Kz
def kqT (t : KQ) : PureTab := [(34, fnQ2 cKz.agg cKz.agg cKz.agg (fun a _ => t.q1 a) t.ad), (45, fnQ2 cKz.agg c6.agg cKz.agg (fun a _ => t.q1 a) t.mu), (46, fnQ1 cKz.agg cKz.agg t.q1 t.ne)]
def kqE (t : KQ) : Env := envA eqsT (kqT t) [] [] [] [] [] true []
end Go.Rq.Rf

namespace Go.Rq.Ro
open Go Go.Proofs Go.Rq Go.Rq.Sm
def suTree (s : Su) (hi lo : BitVec 64) : Tree AV := match s with
 | .lit => dvTG kUU.enc 65521#64 18442521949058891776#64 4293984256#64 0#64 48 16 hi lo
 | .mid => dvTG kUU.enc 72057594037927889#64 18446744073709539584#64 4294967295#64 4294955264#64 8 56 hi lo
set_option maxRecDepth 1000000 in
theorem dv_runL (hi lo : BitVec 64) : (afunR PR (envOf eqsT dvT) [24, 27, 69, 78, 85, 104, 113, 120] (fun _ => none) 2 217 [kU.enc hi, kU.enc lo, kU.enc (suR .lit)]).strict = suTree .lit hi lo := by kernel_rfl
set_option maxRecDepth 1000000 in
theorem dv_runM (hi lo : BitVec 64) : (afunR PR (envOf eqsT dvT) [24, 27, 69, 78, 85, 104, 113, 120] (fun _ => none) 2 217 [kU.enc hi, kU.enc lo, kU.enc (suR .mid)]).strict = suTree .mid hi lo := by kernel_rfl
def dvF (s : Su) (hi lo : BitVec 64) : BitVec 64 × BitVec 64 := (BitVec.ofNat 64 (Nat.div (dvN hi lo) (suRn s)), BitVec.ofNat 64 (Nat.mod (dvN hi lo) (suRn s)))
theorem su_holds {s : Su} {hi lo : BitVec 64} (h : hi.toNat < suRn s) : (suTree s hi lo).holds (fun q => flat q = some (kUU.val (dvF s hi lo))) := by
 cases s with
 | lit => exact dvTG_holds (p := 65521) (Yn := 18442521949058891776) (V1 := 4293984256) (V0 := 0) rfl rfl rfl rfl rfl (by decide +kernel) (by decide +kernel) (by decide +kernel) (by decide +kernel) (by decide +kernel) h (kUU.h1 _)
 | mid => exact dvTG_holds (p := 72057594037927889) (Yn := 18446744073709539584) (V1 := 4294967295) (V0 := 4294955264) rfl rfl rfl rfl rfl (by decide +kernel) (by decide +kernel) (by decide +kernel) (by decide +kernel) (by decide +kernel) h (kUU.h1 _)
def suOfP (x : BitVec 64) : Option Su := bif x == 65521#64 then some .lit else bif x == 72057594037927889#64 then some .mid else none
theorem suOfP_ok (x : BitVec 64) (s : Su) (h : suOfP x = some s) : suR s = x := by
 unfold suOfP at h
 cases h1 : x == 65521#64 with
 | true => rw [h1, cond_true] at h; cases h; exact (eq_of_beq h1).symm
 | false =>
  rw [h1, cond_false] at h
  cases h2 : x == 72057594037927889#64 with
  | true => rw [h2, cond_true] at h; cases h; exact (eq_of_beq h2).symm
  | false => rw [h2, cond_false] at h; cases h
def kPr : Cod Su := kEmb kU suR suOfP suOfP_ok
def fnDv (F : Su -> BitVec 64 -> BitVec 64 -> BitVec 64 × BitVec 64) : List AV -> Option (Bool × AV)
 | [a, c, d] => match toU a, toU c, kPr.dec d with
  | some x, some y, some s => some (Nat.blt x.toNat (suRn s), kUU.enc (F s x y))
  | _, _, _ => none
 | _ => none
theorem dv_ctx : Ctx PR (envOf eqsT dvT) [24, 27, 69, 78, 85, 104, 113, 120] (fun _ => none) 2 217 :=
 ctxB (envOf_ok eqsT_ok dvT_ok) mixed (by kernel_rfl)
theorem dv_gives {s : Su} {hi lo : BitVec 64} (h : hi.toNat < suRn s) : Gives (afunR PR (envOf eqsT dvT) [24, 27, 69, 78, 85, 104, 113, 120] (fun _ => none) 2 217 [kU.enc hi, kU.enc lo, kU.enc (suR s)]) (kUU.val (dvF s hi lo)) := by
 cases s with
 | lit => exact givesOf (dv_runL hi lo) (su_holds h)
 | mid => exact givesOf (dv_runM hi lo) (su_holds h)
theorem dv_ok : CallOk PR 217 (fnDv dvF) := by
 refine .inl ⟨entersB (by kernel_rfl), pure_core dv_ctx fun args r hg => ?_⟩
 unfold fnDv at hg
 split at hg
 . rename_i a c d
   split at hg
   . rename_i x y s hx hy hs
     simp only [Option.some.injEq, Prod.mk.injEq] at hg
     obtain ⟨hb, rfl⟩ := hg
     refine ⟨[kU.enc x, kU.enc y, kU.enc (suR s)], [kU.val x, kU.val y, kU.val (suR s)], fun ρ xs hxs => ?_, by simp [flatL, kU.h1], _, kUU.h1 _, (dv_gives (Nat.le_of_ble_eq_true hb)).out⟩
     obtain ⟨v, ys, rfl, h1, h2⟩ := hxs.uncons
     obtain ⟨u, zs, rfl, h3, h4⟩ := h2.uncons
     obtain ⟨t, us, rfl, h5, h6⟩ := h4.uncons
     rw [h6.unnil, h1.toU hx, h3.toU hy, kPr.h2 ρ _ _ _ hs h5]
     rfl
   . cases hg
 . cases hg
def rmT (D : Su -> BitVec 64 -> BitVec 64 -> BitVec 64 × BitVec 64) : PureTab := [(217, fnDv D)]
theorem rmT_ok : TabPOk PR (rmT dvF) := TabPOk.cons dv_ok TabPOk.nil
theorem rm_run (D : Su -> BitVec 64 -> BitVec 64 -> BitVec 64 × BitVec 64) (s : Su) (hi lo : BitVec 64) : Tree.but [1] 0 (afunR PR (envOf eqsT (rmT D)) [] (fun _ => none) 10 173 [kU.enc hi, kU.enc lo, kPr.enc s]) =
 .need (Nat.blt (hi % suR s).toNat (suRn s) && true) (.leaf (kU.enc (D s (hi % suR s) lo).2)) := by cases s <;> kernel_rfl
def rmF (s : Su) (hi lo : BitVec 64) : BitVec 64 := BitVec.ofNat 64 (Nat.mod (dvN hi lo) (suRn s))
theorem rm_eq (s : Su) (hi lo : BitVec 64) : (dvF s (hi % suR s) lo).2 = rmF s hi lo := by
 unfold dvF rmF
 have h : dvN (hi % suR s) lo % suRn s = dvN hi lo % suRn s := by
  show (((hi % suR s).toNat * 18446744073709551616) + lo.toNat) % suRn s = ((hi.toNat * 18446744073709551616) + lo.toNat) % suRn s
  rw [BitVec.toNat_umod, suR_nat, Nat.add_mod, Nat.mod_mul_mod, <- Nat.add_mod]
 exact congrArg (BitVec.ofNat 64) h
theorem rm_ctx : Ctx PR (envOf eqsT (rmT dvF)) [] (fun _ => none) 10 173 :=
 ctxB (envOf_ok eqsT_ok rmT_ok) mixed (by kernel_rfl)
theorem rm_ok : CallOk PR 173 (fn3 kU kU kPr kU fun x y s => rmF s x y) := by
 refine .inl ⟨entersB (by kernel_rfl), pure3 rm_ctx fun hi lo s => ⟨Tree.holds_but (l := [1]) (i := 0) ?_⟩⟩
 rw [rm_run]
 refine ⟨?_, ?_⟩
 . have : (hi % suR s).toNat < suRn s := by
    rw [BitVec.toNat_umod, suR_nat]; exact Nat.mod_lt _ (suRn_pos s)
   rw [show Nat.blt (hi % suR s).toNat (suRn s) = true from Nat.ble_eq_true_of_le this]; rfl
 . rw [rm_eq]; exact kU.h1 _
def suW (s : Su) : Cv6 := (suR s, 0#64, 0#64, 0#64, 0#64, false)
def suOfW (x : Cv6) : Option Su := bif eqCv (suW .lit) x then some .lit else bif eqCv (suW .mid) x then some .mid else none
theorem suOfW_ok (x : Cv6) (s : Su) (h : suOfW x = some s) : suW s = x := by
 unfold suOfW at h
 cases h1 : eqCv (suW .lit) x with
 | true => rw [h1, cond_true] at h; cases h; exact eqCv_ok _ _ h1
 | false =>
  rw [h1, cond_false] at h
  cases h2 : eqCv (suW .mid) x with
  | true => rw [h2, cond_true] at h; cases h; exact eqCv_ok _ _ h2
  | false => rw [h2, cond_false] at h; cases h
def kCo : Cod Su := kEmb cCv.agg suW suOfW suOfW_ok
def oMul (s : Su) (a b : BitVec 64) : BitVec 64 := BitVec.ofNat 64 (Nat.mod (Nat.mul a.toNat b.toNat) (suRn s))
def oAdd (s : Su) (a b : BitVec 64) : BitVec 64 := (a + b) % suR s
def oNeg (s : Su) (a : BitVec 64) : BitVec 64 := (suR s - a) % suR s
def oSub (s : Su) (a b : BitVec 64) : BitVec 64 := oAdd s a (oNeg s b)
def lmT (M : BitVec 64 -> BitVec 64 -> BitVec 64 × BitVec 64) (R : Op2) : PureTab := [(172, fn2 kU kU kUU M), (173, fn3 kU kU kPr kU fun x y s => R s x y)]
theorem lmT_ok : TabPOk PR (lmT mul64 rmF) := TabPOk.cons mul64_ok (TabPOk.cons rm_ok TabPOk.nil)
theorem lm_run (M : BitVec 64 -> BitVec 64 -> BitVec 64 × BitVec 64) (R : Op2) (s : Su) (a b : BitVec 64) : (afunR PR (envOf eqsT (lmT M R)) [] (fun _ => none) 10 119 [kCo.enc s, kU.enc a, kU.enc b]).strict = .leaf (kU.enc (R s (M a b).1 (M a b).2)) := by cases s <;> kernel_rfl
theorem lm_eq (s : Su) (a b : BitVec 64) : rmF s (mul64 a b).1 (mul64 a b).2 = oMul s a b := by
 unfold rmF oMul
 have h := mul64_nat a b
 have e : dvN (mul64 a b).1 (mul64 a b).2 = a.toNat * b.toNat := by
  show (mul64 a b).1.toNat * 18446744073709551616 + (mul64 a b).2.toNat = _
  rw [<- h, Nat.add_comm, Nat.mul_comm]
 rw [e]; rfl
theorem lm_ctx : Ctx PR (envOf eqsT (lmT mul64 rmF)) [] (fun _ => none) 10 119 :=
 ctxB (envOf_ok eqsT_ok lmT_ok) mixed (by kernel_rfl)
theorem lm_ok : CallOk PR 119 (fn3 kCo kU kU kU oMul) :=
 .inl ⟨entersB (by kernel_rfl), pure3 lm_ctx fun s a b => leafVal (B := kU) (y := oMul s a b) (by rw [lm_run, lm_eq])⟩
theorem la_run (s : Su) (a b : BitVec 64) : (afunR PR (envOf eqsT []) [] (fun _ => none) 10 170 [kCo.enc s, kU.enc a, kU.enc b]).strict = .leaf (kU.enc (oAdd s a b)) := by cases s <;> kernel_rfl
theorem la_ctx : Ctx PR (envOf eqsT []) [] (fun _ => none) 10 170 :=
 ctxB (envOf_ok eqsT_ok TabPOk.nil) mixed (by kernel_rfl)
theorem la_ok : CallOk PR 170 (fn3 kCo kU kU kU oAdd) :=
 .inl ⟨entersB (by kernel_rfl), pure3 la_ctx fun s a b => leafVal (B := kU) (y := oAdd s a b) (la_run s a b)⟩
theorem ln_run (s : Su) (a : BitVec 64) : (afunR PR (envOf eqsT []) [] (fun _ => none) 10 144 [kCo.enc s, kU.enc a]).strict = .leaf (kU.enc (oNeg s a)) := by cases s <;> kernel_rfl
theorem ln_ctx : Ctx PR (envOf eqsT []) [] (fun _ => none) 10 144 :=
 ctxB (envOf_ok eqsT_ok TabPOk.nil) mixed (by kernel_rfl)
theorem ln_ok : CallOk PR 144 (fn2 kCo kU kU oNeg) :=
 .inl ⟨entersB (by kernel_rfl), pure2 ln_ctx fun s a => leafVal (B := kU) (y := oNeg s a) (ln_run s a)⟩
def tAn (A : Op2) (N : Op1) : PureTab := [(170, fn3 kCo kU kU kU A), (144, fn2 kCo kU kU N)]
theorem ls_run (A : Op2) (N : Op1) (s : Su) (a b : BitVec 64) : (afunR PR (envOf eqsT (tAn A N)) [] (fun _ => none) 10 118 [kCo.enc s, kU.enc a, kU.enc b]).strict = .leaf (kU.enc (A s a (N s b))) := by cases s <;> kernel_rfl
theorem ls_ctx : Ctx PR (envOf eqsT (tAn oAdd oNeg)) [] (fun _ => none) 10 118 :=
 ctxB (envOf_ok eqsT_ok (TabPOk.cons la_ok (TabPOk.cons ln_ok TabPOk.nil))) mixed (by kernel_rfl)
theorem ls_ok : CallOk PR 118 (fn3 kCo kU kU kU oSub) :=
 .inl ⟨entersB (by kernel_rfl), pure3 ls_ctx fun s a b => leafVal (B := kU) (y := oSub s a b) (ls_run oAdd oNeg s a b)⟩
def cL2 : CC (BitVec 64 × BitVec 64) := CC.prod cU cU
structure OQ where
 mul : Op2
 add : Op2
 sub : Op2
def oqT (t : OQ) : PureTab := [(119, fn3 kCo kU kU kU t.mul), (170, fn3 kCo kU kU kU t.add), (118, fn3 kCo kU kU kU t.sub)]
def tiF (t : OQ) (s : Su) (a b : BitVec 64 × BitVec 64) : BitVec 64 × BitVec 64 := (t.sub s (t.mul s a.1 b.1) (t.mul s a.2 b.2), t.add s (t.mul s a.1 b.2) (t.mul s a.2 b.1))
theorem ti_run (t : OQ) (s : Su) (a b : BitVec 64 × BitVec 64) : valS (afunR PR (envOf eqsT (oqT t)) [] (fun _ => none) 10 148 [kCo.enc s, cL2.agg.enc a, cL2.agg.enc b]) = some (cL2.agg.val (tiF t s a b)) := by cases s <;> kernel_rfl
def oqO : OQ := ⟨oMul, oAdd, oSub⟩
theorem oqT_ok : TabPOk PR (oqT oqO) := TabPOk.cons lm_ok (TabPOk.cons la_ok (TabPOk.cons ls_ok TabPOk.nil))
theorem ti_ok : CallOk PR 148 (fn3 kCo cL2.agg cL2.agg cL2.agg (tiF oqO)) :=
 .inl ⟨entersB (by kernel_rfl), pure3 (ctxB (envOf_ok eqsT_ok oqT_ok) mixed (by kernel_rfl)) fun s a b => givesV (ti_run oqO s a b)⟩
def tiT (T : Su -> BitVec 64 × BitVec 64 -> BitVec 64 × BitVec 64 -> BitVec 64 × BitVec 64) : PureTab := [(148, fn3 kCo cL2.agg cL2.agg cL2.agg T)]
theorem sl_run (T : Su -> BitVec 64 × BitVec 64 -> BitVec 64 × BitVec 64 -> BitVec 64 × BitVec 64) (a b : BitVec 64) (s : Su) : valS (afunR PR (envOf eqsT (tiT T)) [] (fun _ => none) 10 95 [kU.enc a, kU.enc b, kPr.enc s]) = some (kU.val (T s (a, 0#64) (b, 0#64)).1) := by cases s <;> kernel_rfl
def slF (a b : BitVec 64) (s : Su) : BitVec 64 := (tiF oqO s (a, 0#64) (b, 0#64)).1
theorem sl_ok : CallOk PR 95 (fn3 kU kU kPr kU slF) :=
 .inl ⟨entersB (by kernel_rfl), pure3 (ctxB (E := envOf eqsT (tiT (tiF oqO))) (envOf_ok eqsT_ok (TabPOk.cons ti_ok TabPOk.nil)) mixed (by kernel_rfl)) fun a b s => givesV (sl_run (tiF oqO) a b s)⟩
theorem slF_nat (s : Su) (a b : BitVec 64) : (slF a b s).toNat = a.toNat * b.toNat % suRn s := by
 have hz : oMul s 0#64 0#64 = 0#64 := by cases s <;> decide +kernel
 have hm : (oMul s a b).toNat = a.toNat * b.toNat % suRn s := by
  show (BitVec.ofNat 64 (a.toNat * b.toNat % suRn s)).toNat = _
  rw [BitVec.toNat_ofNat]
  exact Nat.mod_eq_of_lt (Nat.lt_trans (Nat.mod_lt _ (suRn_pos s)) (suRn_lt s))
 show (oSub s (oMul s a b) (oMul s 0#64 0#64)).toNat = _
 rw [hz]
 have hn : oNeg s 0#64 = 0#64 := by cases s <;> decide +kernel
 show ((oMul s a b + oNeg s 0#64) % suR s).toNat = _
 rw [hn, BitVec.add_zero, BitVec.toNat_umod, hm, suR_nat, Nat.mod_mod]
end Go.Rq.Ro

namespace Go.Rq.Rf
open Go Go.Proofs Go.Rq Go.Rq.Sm
theorem fr_run : valS (afunR PR (envOf eqsT [(92, fn0 c6.agg orderW)]) [] (fun _ => none) 10 145 []) = some (cFa.agg.val fastR) := by kernel_rfl
theorem fr_ok : CallOk PR 145 (fn0 cFa.agg fastR) :=
 .inl ⟨entersB (by kernel_rfl), pure0 (ctxB (envOf_ok eqsT_ok (TabPOk.cons rorder_ok TabPOk.nil)) mixed (by kernel_rfl)) (givesV fr_run)⟩
def grX : Sx -> Bool
 | .gr => true
 | _ => false
theorem fi_run (f : Fa) (s : Sx) (h : grX s = true) : valS (afunR PR (envOf eqsT [(145, fn0 cFa.agg f)]) [] (fun _ => none) 10 93 [kSx.enc s]) = some (cFa.agg.val f) := by
 cases s <;> first | (exfalso; simp [grX] at h; done) | kernel_rfl
theorem fi_ok : CallOk PR 93 (fnQ1 kSx cFa.agg grX (fun _ => fastR)) :=
 .inl ⟨entersB (by kernel_rfl), pureQ1 (ctxB (E := envOf eqsT [(145, fn0 cFa.agg fastR)]) (envOf_ok eqsT_ok (TabPOk.cons fr_ok TabPOk.nil)) mixed (by kernel_rfl)) fun s h => givesV (fi_run fastR s h)⟩
noncomputable def sneE (O : Sx -> W6) (S : W6 -> W6 -> W6 × Bool) : Env := envA eqsT [(48, fn1 kSx c6.agg O), (149, fn2 c6.agg c6.agg kWB S)] [] [] [] [] [] true []
def mgW (c : Bool) (a b : W6) : W6 := ⟨bif c then a.w0 else b.w0, bif c then a.w1 else b.w1, bif c then a.w2 else b.w2, bif c then a.w3 else b.w3, bif c then a.w4 else b.w4, bif c then a.w5 else b.w5⟩
theorem mgW_eq (c : Bool) (a b : W6) : mgW c a b = bif c then a else b := by cases c <;> rfl
def sneF (O : Sx -> W6) (S : W6 -> W6 -> W6 × Bool) (s : Sx) (a : W6) : W6 := mgW (eqW6 a true) a (S (O s) a).1
theorem sne_run (O : Sx -> W6) (S : W6 -> W6 -> W6 × Bool) (s : Sx) (a : W6) : valS (afunR PR (sneE O S) [9] (fun _ => none) 10 97 [kSx.enc s, c6.agg.enc a]) = some (c6.agg.val (sneF O S s a)) := by cases s <;> kernel_rfl
theorem sne_ok {O : Sx -> W6} {S : W6 -> W6 -> W6 × Bool} (hO : CallOk PR 48 (fn1 kSx c6.agg O)) (hS : CallOk PR 149 (fn2 c6.agg c6.agg kWB S)) : CallOk PR 97 (fn2 kSx c6.agg c6.agg (sneF O S)) :=
 .inl ⟨entersB (by kernel_rfl), pure2 (ctxB (E := sneE O S) (envA_ok eqsT_ok (TabPOk.cons hO (TabPOk.cons hS TabPOk.nil)) TabHOk.nil TabLOk.nil TabAOk.nil) mixed (by kernel_rfl)) fun s a => givesV (sne_run O S s a)⟩
structure SQ where
 f : Fa
 ad : Fa -> W6 -> W6 -> W6
 ml : Fa -> W6 -> W6 -> W6
 iv : Fa -> W6 -> W6
 o : W6
 sl : BitVec 64 -> BitVec 64 -> Su -> BitVec 64
def sfT (t : SQ) : FuncId × (List AV -> Option (Bool × AV)) := (93, fnQ1 kSx cFa.agg grX (fun _ => t.f))
def soT (t : SQ) : FuncId × (List AV -> Option (Bool × AV)) := (48, fn1 kSx c6.agg (orF t.o))
def ssT (t : SQ) : FuncId × (List AV -> Option (Bool × AV)) := (95, fn3 kU kU Ro.kPr kU t.sl)
noncomputable def sadE (t : SQ) : Env := envA eqsT [sfT t, soT t, (115, fn3 cFa.agg c6.agg c6.agg c6.agg t.ad)] [] [] [] [] [] true []
def sadF (t : SQ) : Sx -> W6 -> W6 -> W6
 | .gr, a, b => t.ad t.f a b
 | .li, a, b => ofW ((a.w0 + b.w0) % 65521#64)
 | .mi, a, b => ofW ((a.w0 + b.w0) % 72057594037927889#64)
 | _, _, _ => zW6
theorem sad_run (t : SQ) (s : Sx) (a b : W6) (h : knX s = true) : valS (afunR PR (sadE t) [] (fun _ => none) 10 96 [kSx.enc s, c6.agg.enc a, c6.agg.enc b]) = some (c6.agg.val (sadF t s a b)) := by
 cases s <;> first | (exfalso; simp [knX] at h; done) | kernel_rfl
noncomputable def smlE (t : SQ) : Env := envA eqsT [sfT t, soT t, ssT t, (94, fn3 cFa.agg c6.agg c6.agg c6.agg t.ml)] [] [] [] [] [] true []
def smlF (t : SQ) : Sx -> W6 -> W6 -> W6
 | .gr, a, b => t.ml t.f a b
 | .li, a, b => ofW (t.sl a.w0 b.w0 .lit)
 | .mi, a, b => ofW (t.sl a.w0 b.w0 .mid)
 | _, _, _ => zW6
theorem sml_run (t : SQ) (s : Sx) (a b : W6) (h : knX s = true) : valS (afunR PR (smlE t) [] (fun _ => none) 10 49 [kSx.enc s, c6.agg.enc a, c6.agg.enc b]) = some (c6.agg.val (smlF t s a b)) := by
 cases s <;> first | (exfalso; simp [knX] at h; done) | kernel_rfl
noncomputable def sivE (t : SQ) : Env := envA eqsT [sfT t, soT t, ssT t, (98, fn2 cFa.agg c6.agg c6.agg t.iv)] [] [] [] [] [] true []
def sqS (sl : BitVec 64 -> BitVec 64 -> Su -> BitVec 64) (s : Su) (x : BitVec 64) : Nat -> BitVec 64 -> BitVec 64
 | 0, u => u
 | k + 1, u => sqS sl s x k (bif Nat.testBit (suRn s - 2) k then sl (sl u u s) x s else sl u u s)
def sivF (t : SQ) : Sx -> W6 -> W6
 | .gr, a => t.iv t.f a
 | .li, a => ofW (sqS t.sl .lit a.w0 64 1#64)
 | .mi, a => ofW (sqS t.sl .mid a.w0 64 1#64)
 | _, _ => zW6
set_option maxRecDepth 1000000 in
theorem siv_run (t : SQ) (s : Sx) (a : W6) (h : knX s = true) : valS (afunR PR (sivE t) [] (fun _ => none) 100 51 [kSx.enc s, c6.agg.enc a]) = some (c6.agg.val (sivF t s a)) := by
 cases s <;> first | (exfalso; simp [knX] at h; done) | kernel_rfl
noncomputable def sq0 : SQ := ⟨fastR, rfadd, rmulW, rinvW, orderW, Ro.slF⟩
theorem sq0_ml : sq0.ml = rmulW := by simp only [sq0]
theorem sq0_iv : sq0.iv = rinvW := by simp only [sq0]
theorem sq0_ad : sq0.ad = rfadd := by simp only [sq0]
theorem sqml_ok : CallOk PR 94 (fn3 cFa.agg c6.agg c6.agg c6.agg sq0.ml) := by rw [sq0_ml]; exact rmul_ok
theorem sqiv_ok : CallOk PR 98 (fn2 cFa.agg c6.agg c6.agg sq0.iv) := by rw [sq0_iv]; exact rfinv_ok
theorem sqad_ok : CallOk PR 115 (fn3 cFa.agg c6.agg c6.agg c6.agg sq0.ad) := by rw [sq0_ad]; exact rfadd_ok
theorem soT_ok : CallOk PR (soT sq0).1 (soT sq0).2 := or_ok rorder_ok
theorem sad_ok : CallOk PR 96 (fnQ3 kSx c6.agg c6.agg c6.agg (fun s _ _ => knX s) (sadF sq0)) :=
 .inl ⟨entersB (by kernel_rfl), pureQ3 (ctxB (E := sadE sq0) (envA_ok eqsT_ok (TabPOk.cons fi_ok (TabPOk.cons soT_ok (TabPOk.cons sqad_ok TabPOk.nil))) TabHOk.nil TabLOk.nil TabAOk.nil) mixed (by kernel_rfl)) fun s a b h => givesV (sad_run sq0 s a b h)⟩
theorem sml_ok : CallOk PR 49 (fnQ3 kSx c6.agg c6.agg c6.agg (fun s _ _ => knX s) (smlF sq0)) :=
 .inl ⟨entersB (by kernel_rfl), pureQ3 (ctxB (E := smlE sq0) (envA_ok eqsT_ok (TabPOk.cons fi_ok (TabPOk.cons soT_ok (TabPOk.cons Ro.sl_ok (TabPOk.cons sqml_ok TabPOk.nil)))) TabHOk.nil TabLOk.nil TabAOk.nil) mixed (by kernel_rfl)) fun s a b h => givesV (sml_run sq0 s a b h)⟩
theorem siv_ok : CallOk PR 51 (fnQ2 kSx c6.agg c6.agg (fun s _ => knX s) (sivF sq0)) :=
 .inl ⟨entersB (by kernel_rfl), pureQ2 (ctxB (E := sivE sq0) (envA_ok eqsT_ok (TabPOk.cons fi_ok (TabPOk.cons soT_ok (TabPOk.cons Ro.sl_ok (TabPOk.cons sqiv_ok TabPOk.nil)))) TabHOk.nil TabLOk.nil TabAOk.nil) mixed (by kernel_rfl)) fun s a h => givesV (siv_run sq0 s a h)⟩
noncomputable abbrev rneS : Sx -> W6 -> W6 := sneF (orF orderW) rsubW
theorem rneS_ok : CallOk PR 97 (fn2 kSx c6.agg c6.agg rneS) := sne_ok (or_ok rorder_ok) rsub_ok
abbrev S2 : Type := Sx -> W6 -> W6
abbrev S3r : Type := Sx -> W6 -> W6 -> W6
noncomputable def ssbE (N : S2) (A : S3r) : Env := envA eqsT [(97, fn2 kSx c6.agg c6.agg N), (96, fnQ3 kSx c6.agg c6.agg c6.agg (fun s _ _ => knX s) A)] [] [] [] [] [] true []
theorem ssb_run (N : S2) (A : S3r) (s : Sx) (a b : W6) (h : knX s = true) : valP [] (afunR PR (ssbE N A) [] (fun _ => none) 10 50 [kSx.enc s, c6.agg.enc a, c6.agg.enc b]) = some (true, some (c6.agg.val (A s a (N s b)))) := by
 cases s <;> first | (exfalso; simp [knX] at h; done) | kernel_rfl
noncomputable def ssbF : S3r := fun s a b => sadF sq0 s a (rneS s b)
theorem ssb_ok : CallOk PR 50 (fnQ3 kSx c6.agg c6.agg c6.agg (fun s _ _ => knX s) ssbF) :=
 .inl ⟨entersB (by kernel_rfl), pureQ3 (ctxB (E := ssbE rneS (sadF sq0)) (envA_ok eqsT_ok (TabPOk.cons rneS_ok (TabPOk.cons sad_ok TabPOk.nil)) TabHOk.nil TabLOk.nil TabAOk.nil) mixed (by kernel_rfl)) fun s a b h => givesP (ssb_run rneS (sadF sq0) s a b h) rfl⟩
noncomputable def rexE (B M : S3r) (V : S2) : Env := envA eqsT [(50, fnQ3 kSx c6.agg c6.agg c6.agg (fun s _ _ => knX s) B), (49, fnQ3 kSx c6.agg c6.agg c6.agg (fun s _ _ => knX s) M), (51, fnQ2 kSx c6.agg c6.agg (fun s _ => knX s) V)] [] [] [] [] [] true []
theorem rex_run (B M : S3r) (V : S2) (s : Sx) (c a d b : W6) (h : knX s = true) : valP [] (afunR PR (rexE B M V) [] (fun _ => none) 10 20 [kSx.enc s, c6.agg.enc c, c6.agg.enc a, c6.agg.enc d, c6.agg.enc b]) = some (true, some (c6.agg.val (M s (B s a b) (V s (B s c d))))) := by
 cases s <;> first | (exfalso; simp [knX] at h; done) | kernel_rfl
noncomputable def rexF (s : Sx) (c a d b : W6) : W6 := smlF sq0 s (ssbF s a b) (sivF sq0 s (ssbF s c d))
theorem rex_ok : CallOk PR 20 (Cl.fnQ5 kSx c6.agg c6.agg c6.agg c6.agg c6.agg (fun s _ _ _ _ => knX s) rexF) :=
 .inl ⟨entersB (by kernel_rfl), Cl.pureQ5 (ctxB (E := rexE ssbF (smlF sq0) (sivF sq0)) (envA_ok eqsT_ok (TabPOk.cons ssb_ok (TabPOk.cons sml_ok (TabPOk.cons siv_ok TabPOk.nil))) TabHOk.nil TabLOk.nil TabAOk.nil) mixed (by kernel_rfl)) fun s c a d b h => givesP (rex_run ssbF (smlF sq0) (sivF sq0) s c a d b h) rfl⟩
def bq (b c : Bool) : Bool := bif b then c else false
def tq (b : Bool) : Bool := bif b then true else false
def inY (p : Px) : Bool := inGroup1 (toAp p)
def adY (p q : Px) : Px × Int := ofE (addP1 (toAp p) (toAp q))
def muY (p : Px) (n : W6) : Px × Int := ofE (sumP1W (toAp p) n)
def neY (p : Px) : Px × Int := ofE (negP1 (toAp p))
theorem inY_ok : CallOk PR 108 (fn1 cPx.agg kBool inY) := in_to isinp1_ok
theorem adY_ok : CallOk PR 69 (fn2 cPx.agg cPx.agg kPE adY) := ad_to addp1_ok
theorem muY_ok : CallOk PR 136 (fn2 cPx.agg c6.agg kPE muY) := mu_to mulp1_ok
theorem neY_ok : CallOk PR 83 (fn1 cPx.agg kPE neY) := ne_to negp1_ok
noncomputable abbrev KY : Kz -> Bool := fun a => kchX inY (toKx a)
noncomputable abbrev OY : Int -> W6 × Int := fun i => sorF ordX (Sx.of i)
noncomputable abbrev MY : ZM := kmuX inY muY
noncomputable abbrev AY : ZZ := kadX inY adY
noncomputable abbrev NY : Kz -> Kz × Int := kneX inY neY
theorem FGY_ok : CallOk PR 13 (fn4 cKz.agg cKz.agg c6.agg c6.agg kKzE (pfgF KY OY cmpX (fun a n => (MY a n).1) AY NY)) := pfgX_ok inY_ok adY_ok muY_ok neY_ok
def inR (p : Px) : Bool := rin1 (toAp p)
def adR (p q : Px) : Px := ofAp (radd1 (toAp p) (toAp q))
def muR (p : Px) (n : W6) : Px := ofAp (rmul1 (toAp p) n)
def neR (p : Px) : Px := ofAp (rneg1G roO (toAp p))
theorem aW_enc (y : Ap W6) : aW.agg.enc y = cPx.agg.enc (ofAp y) := rfl
theorem inR_ok : CallOk PR 86 (fn1 cPx.agg kBool inR) := by
 have h := rin1_ok
 rw [fnA1 (B' := kBool) (ψ := fun b => b) fun y => rfl] at h
 exact h
theorem adR_ok : CallOk PR 71 (fn2 cPx.agg cPx.agg cPx.agg adR) := by
 have h := radd1_ok
 rw [fnA2 (B' := cPx.agg) (ψ := ofAp) aW_enc] at h
 exact h
theorem muR_ok : CallOk PR 88 (fn2 cPx.agg c6.agg cPx.agg muR) := by
 have h := rmul1_ok
 rw [fnA1c (B' := cPx.agg) (ψ := ofAp) aW_enc] at h
 exact h
theorem neR_ok : CallOk PR 90 (fn1 cPx.agg cPx.agg neR) := by
 have h := rneg1_ok
 rw [fnA1 (B' := cPx.agg) (ψ := ofAp) aW_enc] at h
 exact h
noncomputable abbrev rK : Kz -> Bool := fun a => myF inR rinF (toKx a)
noncomputable abbrev rA : Kz -> Kz -> Kz := fun a b => toKz (adF adR rSum (toKx a) (toKx b))
noncomputable abbrev rM : Kz -> W6 -> Kz := fun a n => toKz (muF muR tmR (toKx a) n)
noncomputable abbrev rN1 : Kz -> Kz := fun a => toKz (neF neR rNegP (toKx a))
abbrev kq : Kz -> Bool := fun a => knX (toKx a).1
theorem cKx_enc (y : Kx) : cKx.agg.enc y = cKz.agg.enc (toKz y) := rfl
theorem rK_ok : CallOk PR 44 (fn1 cKz.agg kBool rK) := by
 have h := my_ok inR_ok lin_ok
 rw [fnK1 (B' := kBool) (ψ := fun b => b) fun y => rfl] at h
 exact h
theorem rA_ok : CallOk PR 34 (fnQ2 cKz.agg cKz.agg cKz.agg (fun a _ => kq a) rA) := by
 have h := ad_ok adR_ok sm_ok
 rw [fnKQ2 (B' := cKz.agg) (ψ := toKz) cKx_enc] at h
 exact h
theorem rM_ok : CallOk PR 45 (fnQ2 cKz.agg c6.agg cKz.agg (fun a _ => kq a) rM) := by
 have h := mu_ok muR_ok tm_ok
 rw [fnKQ1c (B' := cKz.agg) (ψ := toKz) cKx_enc] at h
 exact h
theorem rN1_ok : CallOk PR 46 (fnQ1 cKz.agg cKz.agg kq rN1) := by
 have h := ne_ok neR_ok np_ok
 rw [fnKQ1 (B' := cKz.agg) (ψ := toKz) cKx_enc] at h
 exact h
theorem great_same : (∀ p : Ap W6, rin1 p = inGroup1 p) /\ (∀ p, inGroup1 p = true -> rcheck1 p = true) /\ (∀ p n, rcheck1 p = true -> (sumP1W p n).1 = rmul1 p n) /\ (∀ p q, rcheck1 p = true -> rcheck1 q = true -> (addP1 p q).1 = radd1 p q) /\ (∀ p, rcheck1 p = true -> (negP1 p).1 = rneg1G roO p) := by
 obtain ⟨b, L⟩ := link1
 refine ⟨fun p => ?_, fun p h => ?_, fun p n h => ?_, fun p q h k => ?_, fun p h => ?_⟩
 . rw [L.ing, rin1_def]
   cases rcheck1 p <;> rfl
 . rw [L.ing] at h
   cases hc : rcheck1 p with
   | true => rfl
   | false => rw [hc] at h; cases h
 . rw [L.mul, h]; rfl
 . rw [L.add, h, k]; rfl
 . rw [L.neg, h]; rfl
theorem rin_same (s : Su) (l : Lp) : rinF s l = inF s l := in_same s l
theorem kch_same (k : Kx) : myF inR rinF k = kchX inY k := by
 obtain ⟨s, p, l⟩ := k
 have e1 : inR p = inY p := great_same.1 (toAp p)
 cases s with
 | gr => show (bif eqLz l then inR p else false) = (bif eqLz l then inY p else false); rw [e1]
 | li => show (bif eqPx p then rinF .lit l else false) = (bif eqPx p then inF .lit l else false); rw [rin_same]
 | mi => show (bif eqPx p then rinF .mid l else false) = (bif eqPx p then inF .mid l else false); rw [rin_same]
 | up n => rfl
 | neg n => rfl
theorem rK_same (a : Kz) : rK a = KY a := kch_same (toKx a)
structure Sr (K : Kz -> Bool) (M : ZM) (A : ZZ) (N : Kz -> Kz × Int) (m : Kz -> W6 -> Kz) (a : Kz -> Kz -> Kz) (n : Kz -> Kz) (q : Kz -> Bool) (s : Int) (r : Nat) {G : Type} (g : Gm G) (ι : G -> Kz) : Prop where
 sg : Sg K M A N s r g ι
 kn : ∀ x, q (ι x) = true
 mu : ∀ (x : G) (w : W6), w.val < r -> m (ι x) w = ι (g.mul w.val x)
 ad : ∀ x y, a (ι x) (ι y) = ι (g.add x y)
 ne : ∀ x, n (ι x) = ι (g.neg x)
theorem sr_gr : Sr KY MY AY NY rM rA rN1 kq 0 rN (gzG gz_ex) gzI where
 sg := sg_gr gz_ex
 kn x := rfl
 mu x w hw := by
  have h1 := (gz_mul gz_ex x).1 w
  have h2 := great_same.2.2.1 x.1 w (great_same.2.1 x.1 x.2)
  show ((0 : Int), ofAp (rmul1 (toAp (ofAp x.1)) w), zLx) = _
  rw [toAp_ofAp, <- h2, h1]; rfl
 ad x y := by
  have h2 := great_same.2.2.2.1 x.1 y.1 (great_same.2.1 x.1 x.2) (great_same.2.1 y.1 y.2)
  show ((0 : Int), ofAp (radd1 (toAp (ofAp x.1)) (toAp (ofAp y.1))), zLx) = _
  rw [toAp_ofAp, toAp_ofAp, <- h2]; rfl
 ne x := by
  have h2 := great_same.2.2.2.2 x.1 (great_same.2.1 x.1 x.2)
  show ((0 : Int), ofAp (rneg1G roO (toAp (ofAp x.1))), zLx) = _
  rw [toAp_ofAp, <- h2]; rfl
theorem on_of_in {s : Su} {l : Lp} (h : inF s l = true) : onF s l = true := by
 unfold inF at h
 cases ho : onF s l with
 | true => rfl
 | false => rw [ho] at h; cases h
theorem neg_same (s : Su) {l : Lp} (h : inF s l = true) : rNegP s l = (l.1, lSub s 0#64 l.2.1, l.2.2) := by
 obtain ⟨X, x1, x2, x3⟩ := (in_iff s).1 h
 rw [x1, lneg_wp, rNegP_wp]
theorem sr_lit (s : Su) : Sr KY MY AY NY rM rA rN1 kq (suSx s).int (suRn s) (glG s) (glI s) where
 sg := sg_lit s inY adY muY neY
 kn x := by
  show knX (toKx (glI s x)).1 = true
  rw [glI_kx]; cases s <;> rfl
 mu x w hw := by
  have h1 : lTimes s x.1 w.w0 = ((glG s).mul w.val x).1 := by rw [(gl_mul s x).1, w0_val (Nat.lt_trans hw (suRn_lt s))]
  have h2 : tmR s x.1 w.w0 = lTimes s x.1 w.w0 := times_same s x.1 w.w0 (on_of_in x.2)
  show toKz (muF muR tmR (toKx (glI s x)) w) = _
  rw [glI_kx]
  cases s
  . show ((1 : Int), zPx, tmR .lit x.1 w.w0) = _
    rw [h2, h1]; rfl
  . show ((2 : Int), zPx, tmR .mid x.1 w.w0) = _
    rw [h2, h1]; rfl
 ad x y := by
  have h2 : rSum s x.1 y.1 = lSum s x.1 y.1 := sum_same s x.1 y.1 (on_of_in x.2) (on_of_in y.2)
  show toKz (adF adR rSum (toKx (glI s x)) (toKx (glI s y))) = _
  rw [glI_kx, glI_kx]
  cases s
  . show ((1 : Int), zPx, rSum .lit x.1 y.1) = _
    rw [h2]; rfl
  . show ((2 : Int), zPx, rSum .mid x.1 y.1) = _
    rw [h2]; rfl
 ne x := by
  have h2 := neg_same s x.2
  show toKz (neF neR rNegP (toKx (glI s x))) = _
  rw [glI_kx]
  cases s
  . show ((1 : Int), zPx, rNegP .lit x.1) = _
    rw [h2]; rfl
  . show ((2 : Int), zPx, rNegP .mid x.1) = _
    rw [h2]; rfl
def srN (s : Int) : Nat := match decide (s = 0), decide (s = 1) with
 | true, _ => rN
 | false, true => suRn .lit
 | false, false => suRn .mid
theorem sr_all (k : Kz) (h : KY k = true) : 0 <= k.1 /\ k.1 <= 2 /\ ∃ (G : Type) (g : Gm G) (ι : G -> Kz), Sr KY MY AY NY rM rA rN1 kq k.1 (srN k.1) g ι := by
 obtain ⟨i, p, l⟩ := k
 show 0 <= i /\ i <= 2 /\ _
 have hi := Sx.int_of i
 have hk : kchX inY (Sx.of i, p, l) = true := h
 cases hs : Sx.of i with
 | gr =>
  rw [hs] at hi
  have hi : i = 0 := hi.symm
  subst hi
  exact ⟨by omega, by omega, _, _, _, sr_gr⟩
 | li =>
  rw [hs] at hi
  have hi : i = 1 := hi.symm
  subst hi
  exact ⟨by omega, by omega, _, _, _, sr_lit .lit⟩
 | mi =>
  rw [hs] at hi
  have hi : i = 2 := hi.symm
  subst hi
  exact ⟨by omega, by omega, _, _, _, sr_lit .mid⟩
 | up n => rw [hs] at hk; cases hk
 | neg n => rw [hs] at hk; cases hk
theorem sq0_f : sq0.f = fastR := by simp only [sq0]
theorem sq0_sl : sq0.sl = Ro.slF := by simp only [sq0]
theorem mdN_ro : Cl.mdN .ro = rN := by decide +kernel
theorem lo_add (s : Su) (a b : W6) (ha : a.val < suRn s) (hb : b.val < suRn s) : (ofW ((a.w0 + b.w0) % suR s)).val = (a.val + b.val) % suRn s := by
 have la := w0_val (Nat.lt_trans ha (suRn_lt s))
 have lb := w0_val (Nat.lt_trans hb (suRn_lt s))
 have hs : suRn s <= 72057594037927889 := by cases s <;> decide
 rw [Sm.ofW_val, BitVec.toNat_umod, suR_nat, BitVec.toNat_add, la, lb, Nat.mod_eq_of_lt (show a.val + b.val < 2 ^ 64 by omega)]
theorem lo_mul (s : Su) (a b : W6) (ha : a.val < suRn s) (hb : b.val < suRn s) : (ofW (Ro.slF a.w0 b.w0 s)).val = a.val * b.val % suRn s := by
 rw [Sm.ofW_val, Ro.slF_nat, w0_val (Nat.lt_trans ha (suRn_lt s)), w0_val (Nat.lt_trans hb (suRn_lt s))]
theorem sqS_nat (s : Su) (x : BitVec 64) : ∀ (k : Nat) (u : BitVec 64), u.toNat < suRn s -> (sqS Ro.slF s x k u).toNat < suRn s /\ (sqS Ro.slF s x k u).toNat = u.toNat ^ 2 ^ k * x.toNat ^ bitsV (fun i => Nat.testBit (suRn s - 2) i) k % suRn s
 | 0, u, h => by
  refine ⟨h, ?_⟩
  show u.toNat = u.toNat ^ 2 ^ 0 * x.toNat ^ 0 % suRn s
  rw [Nat.pow_zero, Nat.pow_one, Nat.pow_zero, Nat.mul_one, Nat.mod_eq_of_lt h]
 | k + 1, u, h => by
  have hp := suRn_pos s
  have step : ∃ v : BitVec 64, sqS Ro.slF s x (k + 1) u = sqS Ro.slF s x k v /\ v.toNat = u.toNat * u.toNat * (bif Nat.testBit (suRn s - 2) k then x.toNat else 1) % suRn s := by
   refine ⟨_, rfl, ?_⟩
   cases Nat.testBit (suRn s - 2) k with
   | true =>
    simp only [cond_true]
    rw [Ro.slF_nat, Ro.slF_nat, Nat.mod_mul_mod]
   | false =>
    simp only [cond_false]
    rw [Ro.slF_nat, Nat.mul_one]
  obtain ⟨v, e1, e3⟩ := step
  have e2 : v.toNat < suRn s := by rw [e3]; exact Nat.mod_lt _ hp
  obtain ⟨i1, i2⟩ := sqS_nat s x k v e2
  rw [e1]
  refine ⟨i1, ?_⟩
  rw [i2, e3]
  simp only [bitsV]
  generalize u.toNat = V
  generalize hN : suRn s = N
  generalize x.toNat = A
  have key : ∀ c B : Nat, (V * V * c % N) ^ 2 ^ k * A ^ B % N = V ^ 2 ^ (k + 1) * (c ^ 2 ^ k * A ^ B) % N := by
   intro c B
   rw [Nat.mul_mod, <- Nat.pow_mod, <- Nat.mul_mod, Nat.mul_pow, <- Nat.pow_two, <- Nat.pow_mul, Nat.mul_assoc, show 2 * 2 ^ k = 2 ^ (k + 1) by rw [Nat.pow_succ, Nat.mul_comm]]
  rw [key]
  cases Nat.testBit (N - 2) k with
  | true => simp only [cond_true]; rw [<- Nat.pow_add, Nat.add_comm (2 ^ k)]
  | false => simp only [cond_false, Nat.one_pow, Nat.one_mul, Nat.add_zero]
theorem bits_r (s : Su) : bitsV (fun i => Nat.testBit (suRn s - 2) i) 64 = suRn s - 2 := by cases s <;> decide +kernel
theorem lo_inv (s : Su) (a : W6) (ha : a.val < suRn s) : (ofW (sqS Ro.slF s a.w0 64 1#64)).val < suRn s /\ (ofW (sqS Ro.slF s a.w0 64 1#64)).val = a.val ^ (suRn s - 2) % suRn s := by
 have h1 : (1#64 : BitVec 64).toNat < suRn s := by cases s <;> decide
 obtain ⟨i1, i2⟩ := sqS_nat s a.w0 64 1#64 h1
 rw [Sm.ofW_val]
 refine ⟨i1, ?_⟩
 rw [bits_r, w0_val (Nat.lt_trans ha (suRn_lt s))] at i2
 exact pow_one_left i2 rfl
section
variable {s : Sx} {m : Cl.Md}
theorem r_add (h : Cl.mdS s = some m) {a b : W6} (ha : a.val < Cl.mdN m) (hb : b.val < Cl.mdN m) : (sadF sq0 s a b).val = (a.val + b.val) % Cl.mdN m := by
 cases s <;> cases h
 . show (sq0.ad sq0.f a b).val = _
   rw [sq0_ad, sq0_f]
   have e : fastR.1.val = Cl.mdN .ro := by rw [fastR_val, mdN_ro]
   rw [<- e] at ha hb ⊢
   exact fg_add fastR_mg ha hb
 . exact lo_add .lit a b ha hb
 . exact lo_add .mid a b ha hb
theorem r_mul (h : Cl.mdS s = some m) {a b : W6} (ha : a.val < Cl.mdN m) (hb : b.val < Cl.mdN m) : (smlF sq0 s a b).val = a.val * b.val % Cl.mdN m := by
 cases s <;> cases h
 . show (sq0.ml sq0.f a b).val = _
   rw [sq0_ml, sq0_f]
   have e : fastR.1.val = Cl.mdN .ro := by rw [fastR_val, mdN_ro]
   rw [<- e] at hb ⊢
   exact fg_mul fastR_mg a b hb
 . show (ofW (sq0.sl a.w0 b.w0 .lit)).val = _
   rw [sq0_sl]
   exact lo_mul .lit a b ha hb
 . show (ofW (sq0.sl a.w0 b.w0 .mid)).val = _
   rw [sq0_sl]
   exact lo_mul .mid a b ha hb
theorem r_inv (h : Cl.mdS s = some m) {a : W6} (ha : a.val < Cl.mdN m) : (sivF sq0 s a).val < Cl.mdN m /\ (sivF sq0 s a).val = a.val ^ (Cl.mdN m - 2) % Cl.mdN m := by
 cases s <;> cases h
 . show (sq0.iv sq0.f a).val < _ /\ (sq0.iv sq0.f a).val = _
   rw [sq0_iv, sq0_f, mdN_ro]
   rw [mdN_ro] at ha
   exact rinvR_val ha
 . show (ofW (sqS sq0.sl .lit a.w0 64 1#64)).val < _ /\ (ofW (sqS sq0.sl .lit a.w0 64 1#64)).val = _
   rw [sq0_sl]
   exact lo_inv .lit a ha
 . show (ofW (sqS sq0.sl .mid a.w0 64 1#64)).val < _ /\ (ofW (sqS sq0.sl .mid a.w0 64 1#64)).val = _
   rw [sq0_sl]
   exact lo_inv .mid a ha
theorem or_val (h : Cl.mdS s = some m) : (orF orderW s).val = Cl.mdN m := by
 cases s <;> cases h <;> decide +kernel
theorem eqW6_zero (a : W6) : eqW6 a true = true ↔ a.val = 0 := by
 have e : eqW6 a true = Cl.ze0 a := rfl
 rw [e]; exact Cl.ze0_val a
theorem r_neg (h : Cl.mdS s = some m) {a : W6} (ha : a.val < Cl.mdN m) : (rneS s a).val = (Cl.mdN m - a.val) % Cl.mdN m := by
 show (mgW (eqW6 a true) a (rsubW (orF orderW s) a).1).val = _
 rw [mgW_eq]
 have ho := or_val h
 cases hz : eqW6 a true with
 | true =>
  have := (eqW6_zero a).1 hz
  rw [cond_true, this, Nat.sub_zero, Nat.mod_self]
 | false =>
  have h0 : a.val ≠ 0 := fun e => by rw [(eqW6_zero a).2 e] at hz; cases hz
  rw [cond_false, rsubW_eq]
  have h1 := subs_nat (orF orderW s) a
  have hl := (subs (orF orderW s) a).1.val_lt
  rw [ho] at h1
  rw [Nat.mod_eq_of_lt (by omega)]
  have hx := (orF orderW s).val_lt
  rw [ho] at hx
  cases hb : (subs (orF orderW s) a).2 with
  | true => rw [hb, show b2n true = 1 from rfl] at h1; omega
  | false => rw [hb, show b2n false = 0 from rfl] at h1; omega
theorem r_sub (h : Cl.mdS s = some m) {a b : W6} (ha : a.val < Cl.mdN m) (hb : b.val < Cl.mdN m) : (ssbF s a b).val = (a.val + (Cl.mdN m - b.val)) % Cl.mdN m := by
 have hn := r_neg h hb
 have hp := (Cl.mdN_pos m).1
 have hlt : (rneS s b).val < Cl.mdN m := by rw [hn]; exact Nat.mod_lt _ (by omega)
 show (sadF sq0 s a (rneS s b)).val = _
 rw [r_add h ha hlt, hn, Nat.add_mod, Nat.mod_mod, <- Nat.add_mod]
theorem pr_of_md (h : Cl.mdS s = some m) : Pr (Cl.mdN m) := by
 cases s <;> cases h
 . exact pr_r
 . exact pr_65521
 . exact pr_72057594037927889
theorem inv_same {p a i j : Nat} (hp : Pr p) (ha : ¬ p ∣ a) (hi : i < p) (hj : j < p) (h1 : a * i % p = 1) (h2 : a * j % p = 1) : i = j := by
 have h : i * a % p = j * a % p := by rw [Nat.mul_comm i, Nat.mul_comm j, h1, h2]
 have k := hp.cancel ha h
 rwa [Nat.mod_eq_of_lt hi, Nat.mod_eq_of_lt hj] at k
theorem ex_same (h : Cl.mdS s = some m) {c a d b : W6} (hc : c.val < Cl.mdN m) (ha : a.val < Cl.mdN m) (hd : d.val < Cl.mdN m) (hb : b.val < Cl.mdN m) (hn : c.val ≠ d.val) :
 (Cl.opF Cl.qsubW s a b).1.val < Cl.mdN m /\ (Cl.opF Cl.qsubW s c d).1.val < Cl.mdN m /\ (Cl.ivF s (Cl.opF Cl.qsubW s c d).1).1.val < Cl.mdN m /\
 Cl.opF Cl.qmulW s (Cl.opF Cl.qsubW s a b).1 (Cl.ivF s (Cl.opF Cl.qsubW s c d).1).1 = (rexF s c a d b, 0) := by
 have M := Cl.mg_md m
 have hv := Cl.modS_val m
 have hp := (Cl.mdN_pos m).1
 have P := pr_of_md h
 have ho : ∀ (op : Cl.Mo -> W6 -> W6 -> W6) (x y : W6), Cl.opF op s x y = (op (Cl.modS m) x y, 0) := fun op x y => by
  unfold Cl.opF
  rw [h]
 have hi : ∀ x, Cl.ivF s x = Cl.invF m x := fun x => by
  unfold Cl.ivF
  rw [h]
 have sub : ∀ x y : W6, x.val < Cl.mdN m -> y.val < Cl.mdN m -> (Cl.qsubW (Cl.modS m) x y).val = (x.val + (Cl.mdN m - y.val)) % Cl.mdN m := fun x y hx hy => by
  have := Cl.mg_sub M x y
  rw [hv, Nat.mod_eq_of_lt hx, Nat.mod_eq_of_lt hy] at this
  exact this
 rw [ho, ho, hi, ho]
 dsimp only
 have s1 := sub a b ha hb
 have s2 := sub c d hc hd
 have r1 := r_sub h ha hb
 have r2 := r_sub h hc hd
 have e1 : Cl.qsubW (Cl.modS m) a b = ssbF s a b := W6.val_inj (by rw [s1, r1])
 have e2 : Cl.qsubW (Cl.modS m) c d = ssbF s c d := W6.val_inj (by rw [s2, r2])
 have l1 : (ssbF s a b).val < Cl.mdN m := by rw [r1]; exact Nat.mod_lt _ (by omega)
 have l2 : (ssbF s c d).val < Cl.mdN m := by rw [r2]; exact Nat.mod_lt _ (by omega)
 have nz : (ssbF s c d).val ≠ 0 := by
  rw [r2]
  by_cases hle : d.val <= c.val
  . rw [show c.val + (Cl.mdN m - d.val) = (c.val - d.val) + Cl.mdN m by omega, Nat.add_mod_right, Nat.mod_eq_of_lt (by omega)]
    omega
  . rw [Nat.mod_eq_of_lt (by omega)]
    omega
 rw [e1, e2]
 have nd : ¬ Cl.mdN m ∣ (ssbF s c d).val := fun hd => nz (Nat.eq_zero_of_dvd_of_lt hd l2)
 obtain ⟨-, i2, i3⟩ := Cl.inv_val P nd
 obtain ⟨j1, j2⟩ := r_inv h l2
 have j3 : (ssbF s c d).val * (sivF sq0 s (ssbF s c d)).val % Cl.mdN m = 1 := by
  have hf := fermat P nd
  rw [j2, Nat.mul_comm, Nat.mod_mul_mod, <- Nat.pow_succ, show (Cl.mdN m - 2).succ = Cl.mdN m - 1 by omega, hf]
 have e3 : (Cl.invF m (ssbF s c d)).1 = sivF sq0 s (ssbF s c d) := W6.val_inj (inv_same P nd i2 j1 i3 j3)
 refine ⟨l1, l2, i2, ?_⟩
 rw [e3]
 have m1 := Cl.mg_mul M (ssbF s a b) (sivF sq0 s (ssbF s c d)) (by rw [hv]; exact j1)
 rw [hv] at m1
 have m2 := r_mul h l1 j1
 have e4 : Cl.qmulW (Cl.modS m) (ssbF s a b) (sivF sq0 s (ssbF s c d)) = rexF s c a d b := W6.val_inj (by rw [m1]; exact m2.symm)
 rw [e4]
end
section
variable (O : Int -> W6 × Int) (C : W6 -> W6 -> Int) (Q : Cl.Q3) (P : Int -> W6 -> Bool) (S M : S3) (V : Int -> W6 -> W6 × Int) (s : Int) (c a d b : W6)
set_option maxRecDepth 100000 in
theorem px_0 : valP [true] (Cl.pxqT O C Q P S M V s c a d b) = some (bif (O s).2 != 0 then true else false, some (kWE.val (zW6, (O s).2))) := by kernel_rfl
set_option maxRecDepth 100000 in
theorem px_1 : valP [false, true] (Cl.pxqT O C Q P S M V s c a d b) = some (nt ((O s).2 != 0) (bif geR O C s c then true else false), some (kWE.val (zW6, 2))) := by kernel_rfl
set_option maxRecDepth 100000 in
theorem px_2 : valP [false, false, true] (Cl.pxqT O C Q P S M V s c a d b) = some (nt ((O s).2 != 0) (nt (geR O C s c) (bif geR O C s a then true else false)), some (kWE.val (zW6, 2))) := by kernel_rfl
set_option maxRecDepth 100000 in
theorem px_3 : valP [false, false, false, true] (Cl.pxqT O C Q P S M V s c a d b) = some (nt ((O s).2 != 0) (nt (geR O C s c) (nt (geR O C s a) (bif geR O C s d then true else false))), some (kWE.val (zW6, 2))) := by kernel_rfl
set_option maxRecDepth 100000 in
theorem px_4 : valP [false, false, false, false, true] (Cl.pxqT O C Q P S M V s c a d b) = some (nt ((O s).2 != 0) (nt (geR O C s c) (nt (geR O C s a) (nt (geR O C s d) (bif geR O C s b then true else false)))), some (kWE.val (zW6, 2))) := by kernel_rfl
set_option maxRecDepth 100000 in
theorem px_5 : valP [false, false, false, false, false, true] (Cl.pxqT O C Q P S M V s c a d b) = some (nt ((O s).2 != 0) (nt (geR O C s c) (nt (geR O C s a) (nt (geR O C s d) (nt (geR O C s b) (bif eqWk c d true then true else false))))), some (kWE.val (zW6, 10))) := by kernel_rfl
theorem px_gives (hQ : (O s).2 = 0 -> geR O C s c = false -> geR O C s a = false -> geR O C s d = false -> geR O C s b = false -> eqWk c d true = false -> Q s a b = true /\ Q s c d = true /\ P s (S s c d).1 = true /\ Q s (S s a b).1 (V s (S s c d).1).1 = true) :
 Gives (Cl.pxqT O C Q P S M V s c a d b) (kWE.val (pexF O C S M V s c a d b)) := by
 unfold pexF
 cases h0 : (O s).2 != 0 with
 | true => exact givesP (px_0 O C Q P S M V s c a d b) (by rw [h0]; rfl)
 | false =>
  cases h1 : geR O C s c with
  | true => exact givesP (px_1 O C Q P S M V s c a d b) (by rw [h0, h1]; rfl)
  | false =>
   cases h2 : geR O C s a with
   | true => exact givesP (px_2 O C Q P S M V s c a d b) (by rw [h0, h1, h2]; rfl)
   | false =>
    cases h3 : geR O C s d with
    | true => exact givesP (px_3 O C Q P S M V s c a d b) (by rw [h0, h1, h2, h3]; rfl)
    | false =>
     cases h4 : geR O C s b with
     | true => exact givesP (px_4 O C Q P S M V s c a d b) (by rw [h0, h1, h2, h3, h4]; rfl)
     | false =>
      cases h5 : eqWk c d true with
      | true => exact givesP (px_5 O C Q P S M V s c a d b) (by rw [h0, h1, h2, h3, h4, h5]; rfl)
      | false =>
       have hz : (O s).2 = 0 := by simpa using h0
       obtain ⟨q1, q2, q3, q4⟩ := hQ hz h1 h2 h3 h4 h5
       exact givesP (Cl.pxq_run O C Q P S M V s c a d b) (by rw [h0, h1, h2, h3, h4, h5, q1, q2, q3, q4]; rfl)
end
theorem oy_known {s : Int} (h : (OY s).2 = 0) : ∃ m, Cl.mdS (Sx.of s) = some m /\ (OY s).1.val = Cl.mdN m := by
 have e : OY s = sorF ordX (Sx.of s) := rfl
 rw [e] at h ⊢
 cases hs : Sx.of s with
 | gr => exact ⟨_, rfl, Cl.ordX_md (s := .gr) rfl⟩
 | li => exact ⟨_, rfl, Cl.ordX_md (s := .li) rfl⟩
 | mi => exact ⟨_, rfl, Cl.ordX_md (s := .mi) rfl⟩
 | up n => rw [hs] at h; cases h
 | neg n => rw [hs] at h; cases h
theorem ge_lt {s : Int} {m : Cl.Md} (h : (OY s).1.val = Cl.mdN m) {x : W6} (hx : geR OY cmpX s x = false) : x.val < Cl.mdN m := by
 unfold geR at hx
 have hx := of_decide_eq_false hx
 have k := cmW_nat x (OY s).1
 rw [h] at k
 have e : cmW x (OY s).1 = cmpX x (OY s).1 := rfl
 rw [e] at k
 exact k.1 (by omega)
noncomputable abbrev exY : Int -> W6 -> W6 -> W6 -> W6 -> W6 × Int := pexF OY cmpX Cl.sbZ Cl.mlZ Cl.ivZ
theorem ex_all (s : Int) (c a d b : W6) : Gives (Cl.pxqT OY cmpX Cl.q2Z Cl.q1Z Cl.sbZ Cl.mlZ Cl.ivZ s c a d b) (kWE.val (exY s c a d b)) := by
 apply px_gives
 intro hz h1 h2 h3 h4 h5
 obtain ⟨m, hm, ho⟩ := oy_known hz
 have l1 := ge_lt ho h1
 have l2 := ge_lt ho h2
 have l3 := ge_lt ho h3
 have l4 := ge_lt ho h4
 have hn : c.val ≠ d.val := by
  intro e
  have : eqWk c d true = true := (eqWk_iff _ _ _).2 ⟨W6.val_inj e, rfl⟩
  rw [this] at h5; cases h5
 obtain ⟨k1, k2, k3, -⟩ := ex_same hm l1 l2 l3 l4 hn
 have q : ∀ x : W6, x.val < Cl.mdN m -> Cl.scQ (Sx.of s) x = true := fun x hx => by
  unfold Cl.scQ
  rw [hm]
  exact decide_eq_true hx
 have q2 : ∀ x y : W6, x.val < Cl.mdN m -> y.val < Cl.mdN m -> Cl.sc2 (Sx.of s) x y = true := fun x y hx hy => by
  show (Cl.scQ (Sx.of s) x && Cl.scQ (Sx.of s) y) = true
  rw [q x hx, q y hy]; rfl
 exact ⟨q2 a b l2 l4, q2 c d l1 l3, q _ k2, q2 _ _ k1 k3⟩
theorem OY_ok : CallOk PR 35 (fn1 (kInt .i64) kWE OY) := sor_ok
theorem exY_ok : CallOk PR 12 (fn5 (kInt .i64) c6.agg c6.agg c6.agg c6.agg kWE exY) :=
 .inl ⟨entersB (by kernel_rfl), pure5 (Cl.pxq_ctx OY_ok cmp_ok Cl.sbZ_ok Cl.mlZ_ok Cl.ivZ_ok) fun s c a d b => ex_all s c a d b⟩
def pfiF (K : Kz -> Bool) (O : Int -> W6 × Int) (C : W6 -> W6 -> Int) (T : Kz -> W6 -> Kz) (A : ZZ) (base key begin : Kz) (c z : W6) : Bool × Int :=
 (bif pk3 K O C base key begin c z != 0 then false else eqKz (T base z) (A begin (T key c)).1, bif pk3 K O C base key begin c z != 0 then pk3 K O C base key begin c z else 0)
set_option maxRecDepth 100000 in
theorem pfi_val (K : Kz -> Bool) (O : Int -> W6 × Int) (C : W6 -> W6 -> Int) (T : Kz -> W6 -> Kz) (A : ZZ) (base key begin : Kz) (c z : W6) :
 valS (afunR PR (pfiE K O C T A) [22] (fun _ => none) 20 14 [cKz.agg.enc base, cKz.agg.enc key, cKz.agg.enc begin, c6.agg.enc c, c6.agg.enc z]) = some (kBE.val (pfiF K O C T A base key begin c z)) := by kernel_rfl
theorem pfiB_ok {K : Kz -> Bool} {O : Int -> W6 × Int} {C : W6 -> W6 -> Int} {T : Kz -> W6 -> Kz} {A : ZZ} (hY : HeapOk PR 40 (pckV K O C)) (hT : CallOk PR 42 (fn2 cKz.agg c6.agg cKz.agg T))
 (hA : CallOk PR 32 (fn2 cKz.agg cKz.agg kKzE A)) : CallOk PR 14 (fn5 cKz.agg cKz.agg cKz.agg c6.agg c6.agg kBE (pfiF K O C T A)) :=
 .inl ⟨entersB (by kernel_rfl),
  pure5 (ctxB (envA_ok eqsT_ok (TabPOk.cons (pft_ok hT hA) TabPOk.nil) (TabHOk.cons pck_ent hY TabHOk.nil) TabLOk.nil TabAOk.nil) mixed (by kernel_rfl))
   fun base key begin c z => givesV (pfi_val K O C T A base key begin c z)⟩
theorem FIY_ok : CallOk PR 14 (fn5 cKz.agg cKz.agg cKz.agg c6.agg c6.agg kBE (pfiF KY OY cmpX (fun a n => (MY a n).1) AY)) :=
 pfiB_ok (pck_ok (kchZ_ok inY_ok) sor_ok cmp_ok) (ptm_ok (kmuX_ok inY_ok muY_ok)) (kadX_ok inY_ok adY_ok)
set_option maxRecDepth 100000 in
theorem rfg_run (t : KQ) (b k : Kz) (c z : W6) : valP [] (afunR PR (kqE t) [] (fun _ => none) 10 16 [cKz.agg.enc b, cKz.agg.enc k, c6.agg.enc c, c6.agg.enc z]) =
 some (tq (bq (t.q1 (t.mu b z)) (bq (t.q1 (t.mu k c)) (bq (t.q1 k) (bq (t.q1 b) true)))), some (cKz.agg.val (t.ad (t.mu b z) (t.ne (t.mu k c))))) := by kernel_rfl
set_option maxRecDepth 100000 in
theorem rft_run (t : KQ) (b k g : Kz) (c z : W6) : valP [] (afunR PR (kqE t) [] (fun _ => none) 10 17 [cKz.agg.enc b, cKz.agg.enc k, cKz.agg.enc g, c6.agg.enc c, c6.agg.enc z]) =
 some (tq (bq (t.q1 g) (bq (t.q1 k) (bq (t.q1 b) true))), some (kBool.val (eqKz (t.mu b z) (t.ad g (t.mu k c))))) := by kernel_rfl
def fnQ4 {α γ δ ε β : Type} (A : Cod α) (C : Cod γ) (D : Cod δ) (G : Cod ε) (B : Cod β) (Q : α -> γ -> δ -> ε -> Bool) (F : α -> γ -> δ -> ε -> β) : List AV -> Option (Bool × AV)
 | [a, c, d, g] => match A.dec a, C.dec c, D.dec d, G.dec g with
  | some x, some y, some z, some u => some (Q x y z u, B.enc (F x y z u))
  | _, _, _, _ => none
 | _ => none
theorem pureQ4 {P : Program} {E : Env} {sym : List Tmp} {tab : BTab} {lf f : Nat} {α β γ δ ε : Type} {A : Cod α} {B : Cod β} {C : Cod γ} {D : Cod δ} {G : Cod ε} (X : Ctx P E sym tab lf f) {Q : α -> γ -> δ -> ε -> Bool} {F : α -> γ -> δ -> ε -> β}
 (h : ∀ x y z u, Q x y z u = true -> Gives (afunR P E sym tab lf f [A.enc x, C.enc y, D.enc z, G.enc u]) (B.val (F x y z u))) : PureOk P f (fnQ4 A C D G B Q F) := by
 refine pure_core X fun args r hg => ?_
 unfold fnQ4 at hg
 split at hg
 . rename_i a c d g
   split at hg
   . rename_i x y z u hx hy hz hu
     simp only [Option.some.injEq, Prod.mk.injEq] at hg
     obtain ⟨hq, rfl⟩ := hg
     refine ⟨[A.enc x, C.enc y, D.enc z, G.enc u], [A.val x, C.val y, D.val z, G.val u], fun ρ xs hxs => ?_, by simp [flatL, A.h1, C.h1, D.h1, G.h1], _, B.h1 _, (h x y z u hq).out⟩
     obtain ⟨v1, l1, rfl, h1, k1⟩ := hxs.uncons
     obtain ⟨v2, l2, rfl, h2, k2⟩ := k1.uncons
     obtain ⟨v3, l3, rfl, h3, k3⟩ := k2.uncons
     obtain ⟨v4, l4, rfl, h4, k4⟩ := k3.uncons
     rw [k4.unnil, A.h2 ρ _ _ _ hx h1, C.h2 ρ _ _ _ hy h2, D.h2 ρ _ _ _ hz h3, G.h2 ρ _ _ _ hu h4]
   . cases hg
 . cases hg
noncomputable def kq0 : KQ := ⟨kq, rA, rM, rN1⟩
theorem kq0_ok : TabPOk PR (kqT kq0) := TabPOk.cons rA_ok (TabPOk.cons rM_ok (TabPOk.cons rN1_ok TabPOk.nil))
theorem kqE_ok : EnvOk PR (kqE kq0) := envA_ok eqsT_ok kq0_ok TabHOk.nil TabLOk.nil TabAOk.nil
noncomputable def rfgQ (b k : Kz) (c z : W6) : Bool := tq (bq (kq (rM b z)) (bq (kq (rM k c)) (bq (kq k) (bq (kq b) true))))
noncomputable def rfgF (b k : Kz) (c z : W6) : Kz := rA (rM b z) (rN1 (rM k c))
def rftQ (b k g : Kz) : Bool := tq (bq (kq g) (bq (kq k) (bq (kq b) true)))
noncomputable def rftF (b k g : Kz) (c z : W6) : Bool := eqKz (rM b z) (rA g (rM k c))
theorem rfg_ctx : Ctx PR (kqE kq0) [] (fun _ => none) 10 16 := ctxB kqE_ok mixed (by kernel_rfl)
theorem rft_ctx : Ctx PR (kqE kq0) [] (fun _ => none) 10 17 := ctxB kqE_ok mixed (by kernel_rfl)
theorem rfg_ok : CallOk PR 16 (fnQ4 cKz.agg cKz.agg c6.agg c6.agg cKz.agg rfgQ rfgF) :=
 .inl ⟨entersB (by kernel_rfl), pureQ4 rfg_ctx fun b k c z h => givesP (rfg_run kq0 b k c z) h⟩
theorem rft_ok : CallOk PR 17 (Cl.fnQ5 cKz.agg cKz.agg cKz.agg c6.agg c6.agg kBool (fun b k g _ _ => rftQ b k g) rftF) :=
 .inl ⟨entersB (by kernel_rfl), Cl.pureQ5 rft_ctx fun b k g c z h => givesP (rft_run kq0 b k g c z) h⟩
noncomputable abbrev rS : Int -> W6 -> Bool := fun i => scF (orF orderW) cmpX (Sx.of i)
theorem rS_ok : CallOk PR 19 (fn2 (kInt .i64) c6.agg kBool rS) := by
 have h := sc_ok (or_ok rorder_ok) rcmp_ok
 rw [fnS2t] at h
 exact h
noncomputable abbrev rW : List AV -> AH -> Option (Bool × AV × AH) := wrV rK rS
theorem rW_ok : HeapOk PR 15 rW := wr_ok rK_ok rS_ok
theorem fnS5 {γ δ ε ζ β : Type} {C : Cod γ} {D : Cod δ} {G : Cod ε} {H : Cod ζ} {B : Cod β} {Q : Sx -> γ -> δ -> ε -> ζ -> Bool} {F : Sx -> γ -> δ -> ε -> ζ -> β} : Cl.fnQ5 kSx C D G H B Q F = Cl.fnQ5 (kInt .i64) C D G H B (fun i => Q (Sx.of i)) (fun i => F (Sx.of i)) := by
 funext args
 unfold Cl.fnQ5
 split
 . rename_i a c d g h
   rw [Cl.decSk]
   cases (kInt .i64).dec a with
   | none => rfl
   | some x => cases C.dec c with
    | none => rfl
    | some y => cases D.dec d with
     | none => rfl
     | some z => cases G.dec g with
      | none => rfl
      | some u => cases H.dec h <;> rfl
 . rfl
noncomputable abbrev rX : Int -> W6 -> W6 -> W6 -> W6 -> W6 := fun i => rexF (Sx.of i)
theorem rX_ok : CallOk PR 20 (Cl.fnQ5 (kInt .i64) c6.agg c6.agg c6.agg c6.agg c6.agg (fun i _ _ _ _ => knX (Sx.of i)) rX) := by
 have h := rex_ok
 rw [fnS5] at h
 exact h
structure FT where
 ex : Int -> W6 -> W6 -> W6 -> W6 -> W6 × Int
 fg : Kz -> Kz -> W6 -> W6 -> Kz × Int
 fi : Kz -> Kz -> Kz -> W6 -> W6 -> Bool × Int
 k : Kz -> Bool
 s : Int -> W6 -> Bool
 qg : Kz -> Kz -> W6 -> W6 -> Bool
 rg : Kz -> Kz -> W6 -> W6 -> Kz
 qt : Kz -> Kz -> Kz -> Bool
 rt : Kz -> Kz -> Kz -> W6 -> W6 -> Bool
 qx : Int -> Bool
 rx : Int -> W6 -> W6 -> W6 -> W6 -> W6
noncomputable def ftE (t : FT) : Env :=
 envA eqsT [(12, fn5 (kInt .i64) c6.agg c6.agg c6.agg c6.agg kWE t.ex), (13, fn4 cKz.agg cKz.agg c6.agg c6.agg kKzE t.fg), (14, fn5 cKz.agg cKz.agg cKz.agg c6.agg c6.agg kBE t.fi),
  (16, fnQ4 cKz.agg cKz.agg c6.agg c6.agg cKz.agg t.qg t.rg), (17, Cl.fnQ5 cKz.agg cKz.agg cKz.agg c6.agg c6.agg kBool (fun b k g _ _ => t.qt b k g) t.rt),
  (18, fn1 (kInt .i64) kBool isF), (19, fn2 (kInt .i64) c6.agg kBool t.s), (20, Cl.fnQ5 (kInt .i64) c6.agg c6.agg c6.agg c6.agg c6.agg (fun i _ _ _ _ => t.qx i) t.rx)]
  [(15, wrV t.k t.s)] [] [] [] [] true [15]
def ftS : List Tmp := [69, 74, 77, 87, 90, 96, 99, 110, 113, 116, 120, 126, 132, 138, 143, 147, 153, 157, 169]
noncomputable def ftT (t : FT) (s : Int) (b k g : Kz) (c a d z : W6) : Tree AV := afunR PR (ftE t) ftS (fun _ => none) 30 4 [(kInt .i64).enc s, cKz.agg.enc b, cKz.agg.enc k, cKz.agg.enc g, c6.agg.enc c, c6.agg.enc a, c6.agg.enc d, c6.agg.enc z]
def nb (x y : Bool) : Bool := bif x then false else y
section
variable (t : FT) (s : Int) (b k g : Kz) (c a d z : W6)
set_option maxRecDepth 1000000 in
theorem ft_tt0 : valP [false, false, true, false, false, true, false, false, true, true] (ftT t s b k g c a d z) =
 some (nb ((t.fg b k c a).2 != wr2 t.k t.s b k c a) (nb ((t.fi b k g c a).2 != wr3 t.k t.s b k g c a) (bq (wr2 t.k t.s b k c a == 0) (nb (!eqKz (t.fg b k c a).1 (t.rg b k c a)) (nb (wr2 t.k t.s b k c a != 0) (bq (wr3 t.k t.s b k g c a == 0) (nb ((t.fi b k g c a).1 != t.rt b k g c a) (nb (wr3 t.k t.s b k g c a != 0) (bq (bq (t.qt b k g) (tq (t.qg b k c a))) (bq (!isF s) (bq (eqW6 (t.ex s c a d z).1 true) (true))))))))))), some (kBool.val ((t.ex s c a d z).2 == 2))) := by kernel_rfl
set_option maxRecDepth 1000000 in
theorem ft_tt1 : valP [false, false, true, false, false, true, false, false, false, true, true] (ftT t s b k g c a d z) =
 some (nb ((t.fg b k c a).2 != wr2 t.k t.s b k c a) (nb ((t.fi b k g c a).2 != wr3 t.k t.s b k g c a) (bq (wr2 t.k t.s b k c a == 0) (nb (!eqKz (t.fg b k c a).1 (t.rg b k c a)) (nb (wr2 t.k t.s b k c a != 0) (bq (wr3 t.k t.s b k g c a == 0) (nb ((t.fi b k g c a).1 != t.rt b k g c a) (nb (wr3 t.k t.s b k g c a != 0) (bq (bq (t.qt b k g) (tq (t.qg b k c a))) (nb (!isF s) (bq (!t.s s c) (bq (eqW6 (t.ex s c a d z).1 true) (true)))))))))))), some (kBool.val ((t.ex s c a d z).2 == 2))) := by kernel_rfl
set_option maxRecDepth 1000000 in
theorem ft_tt2 : valP [false, false, true, false, false, true, false, false, false, false, true, true] (ftT t s b k g c a d z) =
 some (nb ((t.fg b k c a).2 != wr2 t.k t.s b k c a) (nb ((t.fi b k g c a).2 != wr3 t.k t.s b k g c a) (bq (wr2 t.k t.s b k c a == 0) (nb (!eqKz (t.fg b k c a).1 (t.rg b k c a)) (nb (wr2 t.k t.s b k c a != 0) (bq (wr3 t.k t.s b k g c a == 0) (nb ((t.fi b k g c a).1 != t.rt b k g c a) (nb (wr3 t.k t.s b k g c a != 0) (bq (bq (t.qt b k g) (tq (t.qg b k c a))) (nb (!isF s) (nb (!t.s s c) (bq (!t.s s a) (bq (eqW6 (t.ex s c a d z).1 true) (true))))))))))))), some (kBool.val ((t.ex s c a d z).2 == 2))) := by kernel_rfl
set_option maxRecDepth 1000000 in
theorem ft_tt3 : valP [false, false, true, false, false, true, false, false, false, false, false, true, true] (ftT t s b k g c a d z) =
 some (nb ((t.fg b k c a).2 != wr2 t.k t.s b k c a) (nb ((t.fi b k g c a).2 != wr3 t.k t.s b k g c a) (bq (wr2 t.k t.s b k c a == 0) (nb (!eqKz (t.fg b k c a).1 (t.rg b k c a)) (nb (wr2 t.k t.s b k c a != 0) (bq (wr3 t.k t.s b k g c a == 0) (nb ((t.fi b k g c a).1 != t.rt b k g c a) (nb (wr3 t.k t.s b k g c a != 0) (bq (bq (t.qt b k g) (tq (t.qg b k c a))) (nb (!isF s) (nb (!t.s s c) (nb (!t.s s a) (bq (!t.s s d) (bq (eqW6 (t.ex s c a d z).1 true) (true)))))))))))))), some (kBool.val ((t.ex s c a d z).2 == 2))) := by kernel_rfl
set_option maxRecDepth 1000000 in
theorem ft_tt4 : valP [false, false, true, false, false, true, false, false, false, false, false, false, true, true] (ftT t s b k g c a d z) =
 some (nb ((t.fg b k c a).2 != wr2 t.k t.s b k c a) (nb ((t.fi b k g c a).2 != wr3 t.k t.s b k g c a) (bq (wr2 t.k t.s b k c a == 0) (nb (!eqKz (t.fg b k c a).1 (t.rg b k c a)) (nb (wr2 t.k t.s b k c a != 0) (bq (wr3 t.k t.s b k g c a == 0) (nb ((t.fi b k g c a).1 != t.rt b k g c a) (nb (wr3 t.k t.s b k g c a != 0) (bq (bq (t.qt b k g) (tq (t.qg b k c a))) (nb (!isF s) (nb (!t.s s c) (nb (!t.s s a) (nb (!t.s s d) (bq (!t.s s z) (bq (eqW6 (t.ex s c a d z).1 true) (true))))))))))))))), some (kBool.val ((t.ex s c a d z).2 == 2))) := by kernel_rfl
set_option maxRecDepth 1000000 in
theorem ft_tt5 : valP [false, false, true, false, false, true, false, false, false, false, false, false, false, true, true] (ftT t s b k g c a d z) =
 some (nb ((t.fg b k c a).2 != wr2 t.k t.s b k c a) (nb ((t.fi b k g c a).2 != wr3 t.k t.s b k g c a) (bq (wr2 t.k t.s b k c a == 0) (nb (!eqKz (t.fg b k c a).1 (t.rg b k c a)) (nb (wr2 t.k t.s b k c a != 0) (bq (wr3 t.k t.s b k g c a == 0) (nb ((t.fi b k g c a).1 != t.rt b k g c a) (nb (wr3 t.k t.s b k g c a != 0) (bq (bq (t.qt b k g) (tq (t.qg b k c a))) (nb (!isF s) (nb (!t.s s c) (nb (!t.s s a) (nb (!t.s s d) (nb (!t.s s z) (bq (eqWk c d true) (bq (eqW6 (t.ex s c a d z).1 true) (true)))))))))))))))), some (kBool.val ((t.ex s c a d z).2 == 10))) := by kernel_rfl
set_option maxRecDepth 1000000 in
theorem ft_tt6 : valP [false, false, true, false, false, true, false, false, false, false, false, false, false, false, true] (ftT t s b k g c a d z) =
 some (nb ((t.fg b k c a).2 != wr2 t.k t.s b k c a) (nb ((t.fi b k g c a).2 != wr3 t.k t.s b k g c a) (bq (wr2 t.k t.s b k c a == 0) (nb (!eqKz (t.fg b k c a).1 (t.rg b k c a)) (nb (wr2 t.k t.s b k c a != 0) (bq (wr3 t.k t.s b k g c a == 0) (nb ((t.fi b k g c a).1 != t.rt b k g c a) (nb (wr3 t.k t.s b k g c a != 0) (bq (bq (t.qt b k g) (tq (t.qg b k c a))) (nb (!isF s) (nb (!t.s s c) (nb (!t.s s a) (nb (!t.s s d) (nb (!t.s s z) (nb (eqWk c d true) (bq (eqWk (t.ex s c a d z).1 (t.rx s c a d z) true) (bq (tq (t.qx s)) (true))))))))))))))))), some (kBool.val ((t.ex s c a d z).2 == 0))) := by kernel_rfl
end
section
variable (t : FT) (s : Int) (b k g : Kz) (c a d z : W6)
set_option maxRecDepth 1000000 in
theorem ft_tf0 : valP [false, false, true, false, false, false, true, false, true, true] (ftT t s b k g c a d z) =
 some (nb ((t.fg b k c a).2 != wr2 t.k t.s b k c a) (nb ((t.fi b k g c a).2 != wr3 t.k t.s b k g c a) (bq (wr2 t.k t.s b k c a == 0) (nb (!eqKz (t.fg b k c a).1 (t.rg b k c a)) (nb (wr2 t.k t.s b k c a != 0) (nb (wr3 t.k t.s b k g c a == 0) (bq (wr3 t.k t.s b k g c a != 0) (nb (t.fi b k g c a).1 (bq (tq (t.qg b k c a)) (bq (!isF s) (bq (eqW6 (t.ex s c a d z).1 true) (true))))))))))), some (kBool.val ((t.ex s c a d z).2 == 2))) := by kernel_rfl
set_option maxRecDepth 1000000 in
theorem ft_tf1 : valP [false, false, true, false, false, false, true, false, false, true, true] (ftT t s b k g c a d z) =
 some (nb ((t.fg b k c a).2 != wr2 t.k t.s b k c a) (nb ((t.fi b k g c a).2 != wr3 t.k t.s b k g c a) (bq (wr2 t.k t.s b k c a == 0) (nb (!eqKz (t.fg b k c a).1 (t.rg b k c a)) (nb (wr2 t.k t.s b k c a != 0) (nb (wr3 t.k t.s b k g c a == 0) (bq (wr3 t.k t.s b k g c a != 0) (nb (t.fi b k g c a).1 (bq (tq (t.qg b k c a)) (nb (!isF s) (bq (!t.s s c) (bq (eqW6 (t.ex s c a d z).1 true) (true)))))))))))), some (kBool.val ((t.ex s c a d z).2 == 2))) := by kernel_rfl
set_option maxRecDepth 1000000 in
theorem ft_tf2 : valP [false, false, true, false, false, false, true, false, false, false, true, true] (ftT t s b k g c a d z) =
 some (nb ((t.fg b k c a).2 != wr2 t.k t.s b k c a) (nb ((t.fi b k g c a).2 != wr3 t.k t.s b k g c a) (bq (wr2 t.k t.s b k c a == 0) (nb (!eqKz (t.fg b k c a).1 (t.rg b k c a)) (nb (wr2 t.k t.s b k c a != 0) (nb (wr3 t.k t.s b k g c a == 0) (bq (wr3 t.k t.s b k g c a != 0) (nb (t.fi b k g c a).1 (bq (tq (t.qg b k c a)) (nb (!isF s) (nb (!t.s s c) (bq (!t.s s a) (bq (eqW6 (t.ex s c a d z).1 true) (true))))))))))))), some (kBool.val ((t.ex s c a d z).2 == 2))) := by kernel_rfl
set_option maxRecDepth 1000000 in
theorem ft_tf3 : valP [false, false, true, false, false, false, true, false, false, false, false, true, true] (ftT t s b k g c a d z) =
 some (nb ((t.fg b k c a).2 != wr2 t.k t.s b k c a) (nb ((t.fi b k g c a).2 != wr3 t.k t.s b k g c a) (bq (wr2 t.k t.s b k c a == 0) (nb (!eqKz (t.fg b k c a).1 (t.rg b k c a)) (nb (wr2 t.k t.s b k c a != 0) (nb (wr3 t.k t.s b k g c a == 0) (bq (wr3 t.k t.s b k g c a != 0) (nb (t.fi b k g c a).1 (bq (tq (t.qg b k c a)) (nb (!isF s) (nb (!t.s s c) (nb (!t.s s a) (bq (!t.s s d) (bq (eqW6 (t.ex s c a d z).1 true) (true)))))))))))))), some (kBool.val ((t.ex s c a d z).2 == 2))) := by kernel_rfl
set_option maxRecDepth 1000000 in
theorem ft_tf4 : valP [false, false, true, false, false, false, true, false, false, false, false, false, true, true] (ftT t s b k g c a d z) =
 some (nb ((t.fg b k c a).2 != wr2 t.k t.s b k c a) (nb ((t.fi b k g c a).2 != wr3 t.k t.s b k g c a) (bq (wr2 t.k t.s b k c a == 0) (nb (!eqKz (t.fg b k c a).1 (t.rg b k c a)) (nb (wr2 t.k t.s b k c a != 0) (nb (wr3 t.k t.s b k g c a == 0) (bq (wr3 t.k t.s b k g c a != 0) (nb (t.fi b k g c a).1 (bq (tq (t.qg b k c a)) (nb (!isF s) (nb (!t.s s c) (nb (!t.s s a) (nb (!t.s s d) (bq (!t.s s z) (bq (eqW6 (t.ex s c a d z).1 true) (true))))))))))))))), some (kBool.val ((t.ex s c a d z).2 == 2))) := by kernel_rfl
set_option maxRecDepth 1000000 in
theorem ft_tf5 : valP [false, false, true, false, false, false, true, false, false, false, false, false, false, true, true] (ftT t s b k g c a d z) =
 some (nb ((t.fg b k c a).2 != wr2 t.k t.s b k c a) (nb ((t.fi b k g c a).2 != wr3 t.k t.s b k g c a) (bq (wr2 t.k t.s b k c a == 0) (nb (!eqKz (t.fg b k c a).1 (t.rg b k c a)) (nb (wr2 t.k t.s b k c a != 0) (nb (wr3 t.k t.s b k g c a == 0) (bq (wr3 t.k t.s b k g c a != 0) (nb (t.fi b k g c a).1 (bq (tq (t.qg b k c a)) (nb (!isF s) (nb (!t.s s c) (nb (!t.s s a) (nb (!t.s s d) (nb (!t.s s z) (bq (eqWk c d true) (bq (eqW6 (t.ex s c a d z).1 true) (true)))))))))))))))), some (kBool.val ((t.ex s c a d z).2 == 10))) := by kernel_rfl
set_option maxRecDepth 1000000 in
theorem ft_tf6 : valP [false, false, true, false, false, false, true, false, false, false, false, false, false, false, true] (ftT t s b k g c a d z) =
 some (nb ((t.fg b k c a).2 != wr2 t.k t.s b k c a) (nb ((t.fi b k g c a).2 != wr3 t.k t.s b k g c a) (bq (wr2 t.k t.s b k c a == 0) (nb (!eqKz (t.fg b k c a).1 (t.rg b k c a)) (nb (wr2 t.k t.s b k c a != 0) (nb (wr3 t.k t.s b k g c a == 0) (bq (wr3 t.k t.s b k g c a != 0) (nb (t.fi b k g c a).1 (bq (tq (t.qg b k c a)) (nb (!isF s) (nb (!t.s s c) (nb (!t.s s a) (nb (!t.s s d) (nb (!t.s s z) (nb (eqWk c d true) (bq (eqWk (t.ex s c a d z).1 (t.rx s c a d z) true) (bq (tq (t.qx s)) (true))))))))))))))))), some (kBool.val ((t.ex s c a d z).2 == 0))) := by kernel_rfl
end
section
variable (t : FT) (s : Int) (b k g : Kz) (c a d z : W6)
set_option maxRecDepth 1000000 in
theorem ft_ff0 : valP [false, false, false, true, false, false, true, false, true, true] (ftT t s b k g c a d z) =
 some (nb ((t.fg b k c a).2 != wr2 t.k t.s b k c a) (nb ((t.fi b k g c a).2 != wr3 t.k t.s b k g c a) (nb (wr2 t.k t.s b k c a == 0) (bq (wr2 t.k t.s b k c a != 0) (nb (!eqKz (t.fg b k c a).1 zKz) (nb (wr3 t.k t.s b k g c a == 0) (bq (wr3 t.k t.s b k g c a != 0) (nb (t.fi b k g c a).1 (bq (!isF s) (bq (eqW6 (t.ex s c a d z).1 true) (true)))))))))), some (kBool.val ((t.ex s c a d z).2 == 2))) := by kernel_rfl
set_option maxRecDepth 1000000 in
theorem ft_ff1 : valP [false, false, false, true, false, false, true, false, false, true, true] (ftT t s b k g c a d z) =
 some (nb ((t.fg b k c a).2 != wr2 t.k t.s b k c a) (nb ((t.fi b k g c a).2 != wr3 t.k t.s b k g c a) (nb (wr2 t.k t.s b k c a == 0) (bq (wr2 t.k t.s b k c a != 0) (nb (!eqKz (t.fg b k c a).1 zKz) (nb (wr3 t.k t.s b k g c a == 0) (bq (wr3 t.k t.s b k g c a != 0) (nb (t.fi b k g c a).1 (nb (!isF s) (bq (!t.s s c) (bq (eqW6 (t.ex s c a d z).1 true) (true))))))))))), some (kBool.val ((t.ex s c a d z).2 == 2))) := by kernel_rfl
set_option maxRecDepth 1000000 in
theorem ft_ff2 : valP [false, false, false, true, false, false, true, false, false, false, true, true] (ftT t s b k g c a d z) =
 some (nb ((t.fg b k c a).2 != wr2 t.k t.s b k c a) (nb ((t.fi b k g c a).2 != wr3 t.k t.s b k g c a) (nb (wr2 t.k t.s b k c a == 0) (bq (wr2 t.k t.s b k c a != 0) (nb (!eqKz (t.fg b k c a).1 zKz) (nb (wr3 t.k t.s b k g c a == 0) (bq (wr3 t.k t.s b k g c a != 0) (nb (t.fi b k g c a).1 (nb (!isF s) (nb (!t.s s c) (bq (!t.s s a) (bq (eqW6 (t.ex s c a d z).1 true) (true)))))))))))), some (kBool.val ((t.ex s c a d z).2 == 2))) := by kernel_rfl
set_option maxRecDepth 1000000 in
theorem ft_ff3 : valP [false, false, false, true, false, false, true, false, false, false, false, true, true] (ftT t s b k g c a d z) =
 some (nb ((t.fg b k c a).2 != wr2 t.k t.s b k c a) (nb ((t.fi b k g c a).2 != wr3 t.k t.s b k g c a) (nb (wr2 t.k t.s b k c a == 0) (bq (wr2 t.k t.s b k c a != 0) (nb (!eqKz (t.fg b k c a).1 zKz) (nb (wr3 t.k t.s b k g c a == 0) (bq (wr3 t.k t.s b k g c a != 0) (nb (t.fi b k g c a).1 (nb (!isF s) (nb (!t.s s c) (nb (!t.s s a) (bq (!t.s s d) (bq (eqW6 (t.ex s c a d z).1 true) (true))))))))))))), some (kBool.val ((t.ex s c a d z).2 == 2))) := by kernel_rfl
set_option maxRecDepth 1000000 in
theorem ft_ff4 : valP [false, false, false, true, false, false, true, false, false, false, false, false, true, true] (ftT t s b k g c a d z) =
 some (nb ((t.fg b k c a).2 != wr2 t.k t.s b k c a) (nb ((t.fi b k g c a).2 != wr3 t.k t.s b k g c a) (nb (wr2 t.k t.s b k c a == 0) (bq (wr2 t.k t.s b k c a != 0) (nb (!eqKz (t.fg b k c a).1 zKz) (nb (wr3 t.k t.s b k g c a == 0) (bq (wr3 t.k t.s b k g c a != 0) (nb (t.fi b k g c a).1 (nb (!isF s) (nb (!t.s s c) (nb (!t.s s a) (nb (!t.s s d) (bq (!t.s s z) (bq (eqW6 (t.ex s c a d z).1 true) (true)))))))))))))), some (kBool.val ((t.ex s c a d z).2 == 2))) := by kernel_rfl
set_option maxRecDepth 1000000 in
theorem ft_ff5 : valP [false, false, false, true, false, false, true, false, false, false, false, false, false, true, true] (ftT t s b k g c a d z) =
 some (nb ((t.fg b k c a).2 != wr2 t.k t.s b k c a) (nb ((t.fi b k g c a).2 != wr3 t.k t.s b k g c a) (nb (wr2 t.k t.s b k c a == 0) (bq (wr2 t.k t.s b k c a != 0) (nb (!eqKz (t.fg b k c a).1 zKz) (nb (wr3 t.k t.s b k g c a == 0) (bq (wr3 t.k t.s b k g c a != 0) (nb (t.fi b k g c a).1 (nb (!isF s) (nb (!t.s s c) (nb (!t.s s a) (nb (!t.s s d) (nb (!t.s s z) (bq (eqWk c d true) (bq (eqW6 (t.ex s c a d z).1 true) (true))))))))))))))), some (kBool.val ((t.ex s c a d z).2 == 10))) := by kernel_rfl
set_option maxRecDepth 1000000 in
theorem ft_ff6 : valP [false, false, false, true, false, false, true, false, false, false, false, false, false, false, true] (ftT t s b k g c a d z) =
 some (nb ((t.fg b k c a).2 != wr2 t.k t.s b k c a) (nb ((t.fi b k g c a).2 != wr3 t.k t.s b k g c a) (nb (wr2 t.k t.s b k c a == 0) (bq (wr2 t.k t.s b k c a != 0) (nb (!eqKz (t.fg b k c a).1 zKz) (nb (wr3 t.k t.s b k g c a == 0) (bq (wr3 t.k t.s b k g c a != 0) (nb (t.fi b k g c a).1 (nb (!isF s) (nb (!t.s s c) (nb (!t.s s a) (nb (!t.s s d) (nb (!t.s s z) (nb (eqWk c d true) (bq (eqWk (t.ex s c a d z).1 (t.rx s c a d z) true) (bq (tq (t.qx s)) (true)))))))))))))))), some (kBool.val ((t.ex s c a d z).2 == 0))) := by kernel_rfl
end
theorem known_is (s : Int) : (isF s = true /\ (OY s).2 = 0 /\ knX (Sx.of s) = true /\ ∃ m, Cl.mdS (Sx.of s) = some m) \/ (isF s = false /\ (OY s).2 = 2) := by
 have hi := Sx.int_of s
 have e : OY s = sorF ordX (Sx.of s) := rfl
 rw [e]
 cases hs : Sx.of s with
 | gr =>
  rw [hs] at hi
  have hi : (0 : Int) = s := hi
  subst hi
  exact .inl ⟨rfl, rfl, rfl, _, rfl⟩
 | li =>
  rw [hs] at hi
  have hi : (1 : Int) = s := hi
  subst hi
  exact .inl ⟨rfl, rfl, rfl, _, rfl⟩
 | mi =>
  rw [hs] at hi
  have hi : (2 : Int) = s := hi
  subst hi
  exact .inl ⟨rfl, rfl, rfl, _, rfl⟩
 | up n =>
  rw [hs] at hi
  have hi : ((n + 3 : Nat) : Int) = s := hi
  refine .inr ⟨?_, rfl⟩
  unfold isF
  have h1 : decide (s >= 0) = true := decide_eq_true (by omega)
  have h2 : decide (s <= 2) = false := decide_eq_false (by omega)
  rw [h1, h2]; rfl
 | neg n =>
  rw [hs] at hi
  have hi : Int.negSucc n = s := hi
  have hl := Int.negSucc_lt_zero n
  refine .inr ⟨?_, rfl⟩
  unfold isF
  have h1 : decide (s >= 0) = false := decide_eq_false (by omega)
  rw [h1]; rfl
theorem or_same {s : Int} {m : Cl.Md} (h : Cl.mdS (Sx.of s) = some m) : orF orderW (Sx.of s) = (OY s).1 := by
 apply W6.val_inj
 rw [or_val h]
 have e : OY s = sorF ordX (Sx.of s) := rfl
 rw [e]
 cases hs : Sx.of s with
 | gr => rw [hs] at h; cases h; exact (Cl.ordX_md (s := .gr) rfl).symm
 | li => rw [hs] at h; cases h; exact (Cl.ordX_md (s := .li) rfl).symm
 | mi => rw [hs] at h; cases h; exact (Cl.ordX_md (s := .mi) rfl).symm
 | up n => rw [hs] at h; cases h
 | neg n => rw [hs] at h; cases h
theorem sc_same {s : Int} {m : Cl.Md} (h : Cl.mdS (Sx.of s) = some m) (x : W6) : (!rS s x) = geR OY cmpX s x := by
 have e : rS s x = decide (cmpX x (orF orderW (Sx.of s)) < 0) := rfl
 rw [e, or_same h]
 unfold geR
 by_cases hc : cmpX x (OY s).1 < 0
 . rw [decide_eq_true hc, decide_eq_false (by omega)]; rfl
 . rw [decide_eq_false hc, decide_eq_true (by omega)]; rfl
theorem sc_lt {s : Int} {m : Cl.Md} (h : Cl.mdS (Sx.of s) = some m) {x : W6} (hx : (!rS s x) = false) : x.val < Cl.mdN m := by
 rw [sc_same h] at hx
 refine ge_lt ?_ hx
 rw [<- or_same h, or_val h]
theorem of_key {a : Kz} (h : KY a = true) : ∃ m, Cl.mdS (Sx.of a.1) = some m /\ Cl.mdN m = srN a.1 := by
 obtain ⟨h0, h2, -⟩ := sr_all a h
 have hs : a.1 = 0 \/ a.1 = 1 \/ a.1 = 2 := by omega
 rcases hs with e | e | e <;> rw [e]
 . exact ⟨.ro, rfl, mdN_ro⟩
 . exact ⟨.rl, rfl, rfl⟩
 . exact ⟨.rm, rfl, rfl⟩
theorem wc_same {s : Int} {m : Cl.Md} (h : Cl.mdS (Sx.of s) = some m) (x y : W6) : wc2 rS s x y = ck2 OY cmpX s x y := by
 unfold wc2 ck2
 rw [sc_same h, sc_same h]; rfl
theorem wr2_same (a b : Kz) (x y : W6) : wr2 rK rS a b x y = pk2 KY OY cmpX a b x y := by
 unfold wr2 pk2
 rw [rK_same, rK_same]
 cases ha : KY a with
 | false => rfl
 | true =>
  obtain ⟨m, hm, -⟩ := of_key ha
  cases hb : KY b with
  | false => rfl
  | true => rw [wc_same hm]; rfl
theorem wr3_same (a b d : Kz) (x y : W6) : wr3 rK rS a b d x y = pk3 KY OY cmpX a b d x y := by
 unfold wr3 pk3
 rw [rK_same, rK_same, rK_same]
 cases ha : KY a with
 | false => rfl
 | true =>
  obtain ⟨m, hm, -⟩ := of_key ha
  cases hb : KY b with
  | false => rfl
  | true =>
   cases hd : KY d with
   | false => rfl
   | true => rw [wc_same hm]; rfl
theorem ck2_zero {s : Int} {m : Cl.Md} (h : Cl.mdS (Sx.of s) = some m) {x y : W6} (hz : ck2 OY cmpX s x y = 0) : x.val < Cl.mdN m /\ y.val < Cl.mdN m := by
 rw [<- wc_same h] at hz
 unfold wc2 at hz
 cases h1 : !rS s x with
 | true => rw [h1] at hz; cases hz
 | false =>
  rw [h1, cond_false] at hz
  cases h2 : !rS s y with
  | true => rw [h2] at hz; cases hz
  | false => exact ⟨sc_lt h h1, sc_lt h h2⟩
theorem pk2_zero {a b : Kz} {x y : W6} (h : pk2 KY OY cmpX a b x y = 0) : KY a = true /\ KY b = true /\ b.1 = a.1 /\ ck2 OY cmpX a.1 x y = 0 := by
 unfold pk2 at h
 cases ha : KY a with
 | false => rw [ha] at h; cases h
 | true =>
  cases hb : KY b with
  | false => rw [ha, hb] at h; cases h
  | true =>
   rw [ha, hb] at h
   have e : (a.1 != a.1) = false := by simp
   rw [e] at h
   cases hc : b.1 != a.1 with
   | true => rw [hc] at h; cases h
   | false => rw [hc] at h; exact ⟨rfl, rfl, by simpa using hc, h⟩
theorem pk3_zero {a b d : Kz} {x y : W6} (h : pk3 KY OY cmpX a b d x y = 0) : pk2 KY OY cmpX a b x y = 0 /\ KY d = true /\ d.1 = a.1 := by
 unfold pk3 at h
 unfold pk2
 cases ha : KY a with
 | false => rw [ha] at h; cases h
 | true =>
  cases hb : KY b with
  | false => rw [ha, hb] at h; cases h
  | true =>
   cases hd : KY d with
   | false => rw [ha, hb, hd] at h; cases h
   | true =>
    rw [ha, hb, hd] at h
    have e : (a.1 != a.1) = false := by simp
    rw [e] at h ⊢
    cases hc : b.1 != a.1 with
    | true => rw [hc] at h; cases h
    | false =>
     rw [hc] at h
     cases hf : d.1 != a.1 with
     | true => rw [hf] at h; cases h
     | false => rw [hf] at h; exact ⟨h, rfl, by simpa using hf⟩
noncomputable abbrev TY : Kz -> W6 -> Kz := fun a n => (MY a n).1
theorem fg_same {b k : Kz} {c z : W6} (h : pk2 KY OY cmpX b k c z = 0) : pfgF KY OY cmpX TY AY NY b k c z = (rfgF b k c z, 0) /\ rfgQ b k c z = true := by
 obtain ⟨h1, h2, h3, h4⟩ := pk2_zero h
 obtain ⟨m, hm, hn⟩ := of_key h1
 obtain ⟨l1, l2⟩ := ck2_zero hm h4
 rw [hn] at l1 l2
 obtain ⟨-, -, G, g, ι, S⟩ := sr_all b h1
 obtain ⟨x, hx⟩ := S.sg.all b rfl h1
 obtain ⟨y, hy⟩ := S.sg.all k h3 h2
 subst hx
 subst hy
 have e : pfgF KY OY cmpX TY AY NY (ι x) (ι y) c z = AY (TY (ι x) z) (NY (TY (ι y) c)).1 := by
  unfold pfgF
  rw [h]; rfl
 rw [e]
 unfold rfgF rfgQ
 have t1 : TY (ι x) z = ι (g.mul z.val x) := by show (MY (ι x) z).1 = _; rw [S.sg.mul x z l2]
 have t2 : TY (ι y) c = ι (g.mul c.val y) := by show (MY (ι y) c).1 = _; rw [S.sg.mul y c l1]
 rw [t1, t2, S.sg.neg, S.mu x z l2, S.mu y c l1, S.ne]
 dsimp only
 rw [S.sg.add, S.ad]
 refine ⟨rfl, ?_⟩
 rw [S.kn, S.kn, S.kn, S.kn]; rfl
theorem ft_same {b k d : Kz} {c z : W6} (h : pk3 KY OY cmpX b k d c z = 0) : pfiF KY OY cmpX TY AY b k d c z = (rftF b k d c z, 0) /\ rftQ b k d = true := by
 obtain ⟨hp, hd1, hd2⟩ := pk3_zero h
 obtain ⟨h1, h2, h3, h4⟩ := pk2_zero hp
 obtain ⟨m, hm, hn⟩ := of_key h1
 obtain ⟨l1, l2⟩ := ck2_zero hm h4
 rw [hn] at l1 l2
 obtain ⟨-, -, G, g, ι, S⟩ := sr_all b h1
 obtain ⟨x, hx⟩ := S.sg.all b rfl h1
 obtain ⟨y, hy⟩ := S.sg.all k h3 h2
 obtain ⟨w, hw⟩ := S.sg.all d hd2 hd1
 subst hx
 subst hy
 subst hw
 have e : pfiF KY OY cmpX TY AY (ι x) (ι y) (ι w) c z = (eqKz (TY (ι x) z) (AY (ι w) (TY (ι y) c)).1, 0) := by
  unfold pfiF
  rw [h]; rfl
 rw [e]
 unfold rftF rftQ
 have t1 : TY (ι x) z = ι (g.mul z.val x) := by show (MY (ι x) z).1 = _; rw [S.sg.mul x z l2]
 have t2 : TY (ι y) c = ι (g.mul c.val y) := by show (MY (ι y) c).1 = _; rw [S.sg.mul y c l1]
 rw [t1, t2, S.mu x z l2, S.mu y c l1, S.sg.add, S.ad]
 refine ⟨rfl, ?_⟩
 rw [S.kn, S.kn, S.kn]; rfl
end Go.Rq.Rf
