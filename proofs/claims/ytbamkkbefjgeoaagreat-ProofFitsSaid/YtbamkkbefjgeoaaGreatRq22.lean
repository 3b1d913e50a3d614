import Derived.Test.YtbamkkbefjgeoaaGreatRq21
import Derived.Test.YtbamkkbefjgeoaaGreatRq05
namespace Go.Rq.Rf
open Go Go.Proofs Go.Rq Go.Rq.Sm
theorem fin_way {ds : List Bool} {tr : Tree AV} {c v : Bool} (h : valP ds tr = some (c, some (kBool.val v))) (hc : c = true) (hv : v = true) : Gives tr (kBool.val true) := by
 subst hv
 exact givesP h hc
section
variable (t : FT) (s : Int) (b k g : Kz) (c a d z : W6)
theorem law_of (eA : ((t.fg b k c a).2 != wr2 t.k t.s b k c a) = false) (eB : ((t.fi b k g c a).2 != wr3 t.k t.s b k g c a) = false)
 (h2 : ((wr2 t.k t.s b k c a == 0) = true /\ (wr2 t.k t.s b k c a != 0) = false /\ (!eqKz (t.fg b k c a).1 (t.rg b k c a)) = false /\ t.qg b k c a = true) \/ ((wr2 t.k t.s b k c a == 0) = false /\ (wr2 t.k t.s b k c a != 0) = true /\ (!eqKz (t.fg b k c a).1 zKz) = false))
 (h3 : ((wr3 t.k t.s b k g c a == 0) = true /\ (wr3 t.k t.s b k g c a != 0) = false /\ ((t.fi b k g c a).1 != t.rt b k g c a) = false /\ t.qt b k g = true /\ (wr2 t.k t.s b k c a == 0) = true) \/ ((wr3 t.k t.s b k g c a == 0) = false /\ (wr3 t.k t.s b k g c a != 0) = true /\ (t.fi b k g c a).1 = false))
 (hs : ((!isF s) = true /\ (eqW6 (t.ex s c a d z).1 true) = true /\ ((t.ex s c a d z).2 == 2) = true) \/ ((!isF s) = false /\ (!t.s s c) = true /\ (eqW6 (t.ex s c a d z).1 true) = true /\ ((t.ex s c a d z).2 == 2) = true) \/ ((!isF s) = false /\ (!t.s s c) = false /\ (!t.s s a) = true /\ (eqW6 (t.ex s c a d z).1 true) = true /\ ((t.ex s c a d z).2 == 2) = true) \/ ((!isF s) = false /\ (!t.s s c) = false /\ (!t.s s a) = false /\ (!t.s s d) = true /\ (eqW6 (t.ex s c a d z).1 true) = true /\ ((t.ex s c a d z).2 == 2) = true) \/ ((!isF s) = false /\ (!t.s s c) = false /\ (!t.s s a) = false /\ (!t.s s d) = false /\ (!t.s s z) = true /\ (eqW6 (t.ex s c a d z).1 true) = true /\ ((t.ex s c a d z).2 == 2) = true) \/ ((!isF s) = false /\ (!t.s s c) = false /\ (!t.s s a) = false /\ (!t.s s d) = false /\ (!t.s s z) = false /\ (eqWk c d true) = true /\ (eqW6 (t.ex s c a d z).1 true) = true /\ ((t.ex s c a d z).2 == 10) = true) \/ ((!isF s) = false /\ (!t.s s c) = false /\ (!t.s s a) = false /\ (!t.s s d) = false /\ (!t.s s z) = false /\ (eqWk c d true) = false /\ (eqWk (t.ex s c a d z).1 (t.rx s c a d z) true) = true /\ t.qx s = true /\ ((t.ex s c a d z).2 == 0) = true)) : Gives (ftT t s b k g c a d z) (kBool.val true) := by
 rcases h2 with ⟨eI, eN, eD, eg⟩ | ⟨eI, eN, eY⟩
 . rcases h3 with ⟨eJ, eM, eE, et, -⟩ | ⟨eJ, eM, eO⟩
   . rcases hs with ⟨n0, x, v⟩ | ⟨n0, n1, x, v⟩ | ⟨n0, n1, n2, x, v⟩ | ⟨n0, n1, n2, n3, x, v⟩ | ⟨n0, n1, n2, n3, n4, x, v⟩ | ⟨n0, n1, n2, n3, n4, n5, x, v⟩ | ⟨n0, n1, n2, n3, n4, n5, x, y, v⟩
     . exact fin_way (ft_tt0 t s b k g c a d z) (by rw [eA, eB, eI, eD, eN, eJ, eE, eM, et, eg, n0, x]; rfl) v
     . exact fin_way (ft_tt1 t s b k g c a d z) (by rw [eA, eB, eI, eD, eN, eJ, eE, eM, et, eg, n0, n1, x]; rfl) v
     . exact fin_way (ft_tt2 t s b k g c a d z) (by rw [eA, eB, eI, eD, eN, eJ, eE, eM, et, eg, n0, n1, n2, x]; rfl) v
     . exact fin_way (ft_tt3 t s b k g c a d z) (by rw [eA, eB, eI, eD, eN, eJ, eE, eM, et, eg, n0, n1, n2, n3, x]; rfl) v
     . exact fin_way (ft_tt4 t s b k g c a d z) (by rw [eA, eB, eI, eD, eN, eJ, eE, eM, et, eg, n0, n1, n2, n3, n4, x]; rfl) v
     . exact fin_way (ft_tt5 t s b k g c a d z) (by rw [eA, eB, eI, eD, eN, eJ, eE, eM, et, eg, n0, n1, n2, n3, n4, n5, x]; rfl) v
     . exact fin_way (ft_tt6 t s b k g c a d z) (by rw [eA, eB, eI, eD, eN, eJ, eE, eM, et, eg, n0, n1, n2, n3, n4, n5, x, y]; rfl) v
   . rcases hs with ⟨n0, x, v⟩ | ⟨n0, n1, x, v⟩ | ⟨n0, n1, n2, x, v⟩ | ⟨n0, n1, n2, n3, x, v⟩ | ⟨n0, n1, n2, n3, n4, x, v⟩ | ⟨n0, n1, n2, n3, n4, n5, x, v⟩ | ⟨n0, n1, n2, n3, n4, n5, x, y, v⟩
     . exact fin_way (ft_tf0 t s b k g c a d z) (by rw [eA, eB, eI, eD, eN, eJ, eM, eO, eg, n0, x]; rfl) v
     . exact fin_way (ft_tf1 t s b k g c a d z) (by rw [eA, eB, eI, eD, eN, eJ, eM, eO, eg, n0, n1, x]; rfl) v
     . exact fin_way (ft_tf2 t s b k g c a d z) (by rw [eA, eB, eI, eD, eN, eJ, eM, eO, eg, n0, n1, n2, x]; rfl) v
     . exact fin_way (ft_tf3 t s b k g c a d z) (by rw [eA, eB, eI, eD, eN, eJ, eM, eO, eg, n0, n1, n2, n3, x]; rfl) v
     . exact fin_way (ft_tf4 t s b k g c a d z) (by rw [eA, eB, eI, eD, eN, eJ, eM, eO, eg, n0, n1, n2, n3, n4, x]; rfl) v
     . exact fin_way (ft_tf5 t s b k g c a d z) (by rw [eA, eB, eI, eD, eN, eJ, eM, eO, eg, n0, n1, n2, n3, n4, n5, x]; rfl) v
     . exact fin_way (ft_tf6 t s b k g c a d z) (by rw [eA, eB, eI, eD, eN, eJ, eM, eO, eg, n0, n1, n2, n3, n4, n5, x, y]; rfl) v
 . rcases h3 with ⟨-, -, -, -, eX⟩ | ⟨eJ, eM, eO⟩
   . rw [eI] at eX; cases eX
   . rcases hs with ⟨n0, x, v⟩ | ⟨n0, n1, x, v⟩ | ⟨n0, n1, n2, x, v⟩ | ⟨n0, n1, n2, n3, x, v⟩ | ⟨n0, n1, n2, n3, n4, x, v⟩ | ⟨n0, n1, n2, n3, n4, n5, x, v⟩ | ⟨n0, n1, n2, n3, n4, n5, x, y, v⟩
     . exact fin_way (ft_ff0 t s b k g c a d z) (by rw [eA, eB, eI, eN, eY, eJ, eM, eO, n0, x]; rfl) v
     . exact fin_way (ft_ff1 t s b k g c a d z) (by rw [eA, eB, eI, eN, eY, eJ, eM, eO, n0, n1, x]; rfl) v
     . exact fin_way (ft_ff2 t s b k g c a d z) (by rw [eA, eB, eI, eN, eY, eJ, eM, eO, n0, n1, n2, x]; rfl) v
     . exact fin_way (ft_ff3 t s b k g c a d z) (by rw [eA, eB, eI, eN, eY, eJ, eM, eO, n0, n1, n2, n3, x]; rfl) v
     . exact fin_way (ft_ff4 t s b k g c a d z) (by rw [eA, eB, eI, eN, eY, eJ, eM, eO, n0, n1, n2, n3, n4, x]; rfl) v
     . exact fin_way (ft_ff5 t s b k g c a d z) (by rw [eA, eB, eI, eN, eY, eJ, eM, eO, n0, n1, n2, n3, n4, n5, x]; rfl) v
     . exact fin_way (ft_ff6 t s b k g c a d z) (by rw [eA, eB, eI, eN, eY, eJ, eM, eO, n0, n1, n2, n3, n4, n5, x, y]; rfl) v
end
noncomputable def ftX : FT := ⟨exY, pfgF KY OY cmpX TY AY NY, pfiF KY OY cmpX TY AY, rK, rS, rfgQ, rfgF, rftQ, rftF, fun i => knX (Sx.of i), rX⟩
theorem eqKz_refl (a : Kz) : eqKz a a = true := (eqKz_iff a a).2 rfl
theorem ex_part (s : Int) (c a d z : W6) : ((!isF s) = true /\ (eqW6 (ftX.ex s c a d z).1 true) = true /\ ((ftX.ex s c a d z).2 == 2) = true) \/ ((!isF s) = false /\ (!ftX.s s c) = true /\ (eqW6 (ftX.ex s c a d z).1 true) = true /\ ((ftX.ex s c a d z).2 == 2) = true) \/ ((!isF s) = false /\ (!ftX.s s c) = false /\ (!ftX.s s a) = true /\ (eqW6 (ftX.ex s c a d z).1 true) = true /\ ((ftX.ex s c a d z).2 == 2) = true) \/ ((!isF s) = false /\ (!ftX.s s c) = false /\ (!ftX.s s a) = false /\ (!ftX.s s d) = true /\ (eqW6 (ftX.ex s c a d z).1 true) = true /\ ((ftX.ex s c a d z).2 == 2) = true) \/ ((!isF s) = false /\ (!ftX.s s c) = false /\ (!ftX.s s a) = false /\ (!ftX.s s d) = false /\ (!ftX.s s z) = true /\ (eqW6 (ftX.ex s c a d z).1 true) = true /\ ((ftX.ex s c a d z).2 == 2) = true) \/ ((!isF s) = false /\ (!ftX.s s c) = false /\ (!ftX.s s a) = false /\ (!ftX.s s d) = false /\ (!ftX.s s z) = false /\ (eqWk c d true) = true /\ (eqW6 (ftX.ex s c a d z).1 true) = true /\ ((ftX.ex s c a d z).2 == 10) = true) \/ ((!isF s) = false /\ (!ftX.s s c) = false /\ (!ftX.s s a) = false /\ (!ftX.s s d) = false /\ (!ftX.s s z) = false /\ (eqWk c d true) = false /\ (eqWk (ftX.ex s c a d z).1 (ftX.rx s c a d z) true) = true /\ ftX.qx s = true /\ ((ftX.ex s c a d z).2 == 0) = true) := by
 have e1 : ftX.ex = exY := rfl
 have e2 : ftX.s = rS := rfl
 have e3 : ftX.qx = fun i => knX (Sx.of i) := rfl
 have e4 : ftX.rx = rX := rfl
 rw [e1, e2, e3, e4]
 have hz : eqW6 zW6 true = true := rfl
 rcases known_is s with ⟨k1, k2, k3, m, hm⟩ | ⟨k1, k2⟩
 . have n0 : (!isF s) = false := by rw [k1]; rfl
   have e0 : ((OY s).2 != 0) = false := by rw [k2]; rfl
   cases h1 : !rS s c with
   | true =>
    have g1 := (sc_same hm c).symm.trans h1
    have ev : exY s c a d z = (zW6, 2) := by show pexF OY cmpX Cl.sbZ Cl.mlZ Cl.ivZ s c a d z = _; unfold pexF; rw [e0, g1]; rfl
    rw [ev]
    exact .inr (.inl ⟨n0, rfl, hz, rfl⟩)
   | false =>
    have g1 := (sc_same hm c).symm.trans h1
    cases h2 : !rS s a with
    | true =>
     have g2 := (sc_same hm a).symm.trans h2
     have ev : exY s c a d z = (zW6, 2) := by show pexF OY cmpX Cl.sbZ Cl.mlZ Cl.ivZ s c a d z = _; unfold pexF; rw [e0, g1, g2]; rfl
     rw [ev]
     exact .inr (.inr (.inl ⟨n0, rfl, rfl, hz, rfl⟩))
    | false =>
     have g2 := (sc_same hm a).symm.trans h2
     cases h3 : !rS s d with
     | true =>
      have g3 := (sc_same hm d).symm.trans h3
      have ev : exY s c a d z = (zW6, 2) := by show pexF OY cmpX Cl.sbZ Cl.mlZ Cl.ivZ s c a d z = _; unfold pexF; rw [e0, g1, g2, g3]; rfl
      rw [ev]
      exact .inr (.inr (.inr (.inl ⟨n0, rfl, rfl, rfl, hz, rfl⟩)))
     | false =>
      have g3 := (sc_same hm d).symm.trans h3
      cases h4 : !rS s z with
      | true =>
       have g4 := (sc_same hm z).symm.trans h4
       have ev : exY s c a d z = (zW6, 2) := by show pexF OY cmpX Cl.sbZ Cl.mlZ Cl.ivZ s c a d z = _; unfold pexF; rw [e0, g1, g2, g3, g4]; rfl
       rw [ev]
       exact .inr (.inr (.inr (.inr (.inl ⟨n0, rfl, rfl, rfl, rfl, hz, rfl⟩))))
      | false =>
       have g4 := (sc_same hm z).symm.trans h4
       cases h5 : eqWk c d true with
       | true =>
        have ev : exY s c a d z = (zW6, 10) := by show pexF OY cmpX Cl.sbZ Cl.mlZ Cl.ivZ s c a d z = _; unfold pexF; rw [e0, g1, g2, g3, g4, h5]; rfl
        rw [ev]
        exact .inr (.inr (.inr (.inr (.inr (.inl ⟨n0, rfl, rfl, rfl, rfl, rfl, hz, rfl⟩)))))
       | false =>
        have hn : c.val ≠ d.val := by
         intro e
         have : eqWk c d true = true := (eqWk_iff _ _ _).2 ⟨W6.val_inj e, rfl⟩
         rw [this] at h5; cases h5
        obtain ⟨-, -, -, q4⟩ := ex_same hm (sc_lt hm h1) (sc_lt hm h2) (sc_lt hm h3) (sc_lt hm h4) hn
        have ev : exY s c a d z = (rX s c a d z, 0) := by
         show pexF OY cmpX Cl.sbZ Cl.mlZ Cl.ivZ s c a d z = _
         unfold pexF
         rw [e0, g1, g2, g3, g4, h5]
         exact q4
        rw [ev]
        exact .inr (.inr (.inr (.inr (.inr (.inr ⟨n0, rfl, rfl, rfl, rfl, rfl, (eqWk_iff _ _ _).2 ⟨rfl, rfl⟩, k3, rfl⟩)))))
 . have e0 : ((OY s).2 != 0) = true := by rw [k2]; rfl
   have ev : exY s c a d z = (zW6, 2) := by show pexF OY cmpX Cl.sbZ Cl.mlZ Cl.ivZ s c a d z = _; unfold pexF; rw [e0, k2]; rfl
   rw [ev]
   exact .inl ⟨by rw [k1]; rfl, hz, rfl⟩
theorem law_all (s : Int) (b k g : Kz) (c a d z : W6) : Gives (ftT ftX s b k g c a d z) (kBool.val true) := by
 have w2 : wr2 ftX.k ftX.s b k c a = pk2 KY OY cmpX b k c a := wr2_same b k c a
 have w3 : wr3 ftX.k ftX.s b k g c a = pk3 KY OY cmpX b k g c a := wr3_same b k g c a
 have f1 : ftX.fg b k c a = pfgF KY OY cmpX TY AY NY b k c a := rfl
 have f2 : ftX.fi b k g c a = pfiF KY OY cmpX TY AY b k g c a := rfl
 apply law_of
 . rw [w2, f1]
   by_cases h : pk2 KY OY cmpX b k c a = 0
   . rw [(fg_same h).1, h]; rfl
   . unfold pfgF
     have e : (pk2 KY OY cmpX b k c a != 0) = true := by simpa using h
     rw [e]
     simp
 . rw [w3, f2]
   by_cases h : pk3 KY OY cmpX b k g c a = 0
   . rw [(ft_same h).1, h]; rfl
   . unfold pfiF
     have e : (pk3 KY OY cmpX b k g c a != 0) = true := by simpa using h
     rw [e]
     simp
 . rw [w2, f1]
   by_cases h : pk2 KY OY cmpX b k c a = 0
   . refine .inl ⟨by rw [h]; rfl, by rw [h]; rfl, ?_, (fg_same h).2⟩
     rw [(fg_same h).1]
     show (!eqKz (rfgF b k c a) (rfgF b k c a)) = false
     rw [eqKz_refl]; rfl
   . have e : (pk2 KY OY cmpX b k c a != 0) = true := by simpa using h
     refine .inr ⟨by simpa using h, e, ?_⟩
     unfold pfgF
     rw [e]
     show (!eqKz zKz zKz) = false
     rw [eqKz_refl]; rfl
 . rw [w2, w3, f2]
   by_cases h : pk3 KY OY cmpX b k g c a = 0
   . refine .inl ⟨by rw [h]; rfl, by rw [h]; rfl, ?_, (ft_same h).2, by rw [(pk3_zero h).1]; rfl⟩
     rw [(ft_same h).1]
     show (rftF b k g c a != rftF b k g c a) = false
     simp
   . have e : (pk3 KY OY cmpX b k g c a != 0) = true := by simpa using h
     refine .inr ⟨by simpa using h, e, ?_⟩
     unfold pfiF
     rw [e]; rfl
 . exact ex_part s c a d z
def fn8 {α γ δ ε ζ η κ μ β : Type} (A : Cod α) (C : Cod γ) (D : Cod δ) (G : Cod ε) (H : Cod ζ) (J : Cod η) (K : Cod κ) (L : Cod μ) (B : Cod β) (F : α -> γ -> δ -> ε -> ζ -> η -> κ -> μ -> β) : List AV -> Option (Bool × AV)
 | [a, c, d, g, h, j, k, l] => match A.dec a, C.dec c, D.dec d, G.dec g, H.dec h, J.dec j, K.dec k, L.dec l with
  | some x, some y, some z, some u, some v, some w, some p, some q => some (true, B.enc (F x y z u v w p q))
  | _, _, _, _, _, _, _, _ => none
 | _ => none
theorem pure8 {P : Program} {E : Env} {sym : List Tmp} {tab : BTab} {lf f : Nat} {α β γ δ ε ζ η κ μ : Type} {A : Cod α} {B : Cod β} {C : Cod γ} {D : Cod δ} {G : Cod ε} {H : Cod ζ} {J : Cod η} {K : Cod κ} {L : Cod μ} (X : Ctx P E sym tab lf f) {F : α -> γ -> δ -> ε -> ζ -> η -> κ -> μ -> β}
 (h : ∀ x y z u v w p q, Gives (afunR P E sym tab lf f [A.enc x, C.enc y, D.enc z, G.enc u, H.enc v, J.enc w, K.enc p, L.enc q]) (B.val (F x y z u v w p q))) : PureOk P f (fn8 A C D G H J K L B F) := by
 refine pure_core X fun args r hg => ?_
 unfold fn8 at hg
 split at hg
 . rename_i a c d g q s m n
   split at hg
   . rename_i x y z u v w p o hx hy hz hu hv hw hp ho
     simp only [Option.some.injEq, Prod.mk.injEq, true_and] at hg
     subst hg
     refine ⟨[A.enc x, C.enc y, D.enc z, G.enc u, H.enc v, J.enc w, K.enc p, L.enc o], [A.val x, C.val y, D.val z, G.val u, H.val v, J.val w, K.val p, L.val o], fun ρ xs hxs => ?_, by simp [flatL, A.h1, C.h1, D.h1, G.h1, H.h1, J.h1, K.h1, L.h1], _, B.h1 _, (h x y z u v w p o).out⟩
     obtain ⟨v1, l1, rfl, h1, k1⟩ := hxs.uncons
     obtain ⟨v2, l2, rfl, h2, k2⟩ := k1.uncons
     obtain ⟨v3, l3, rfl, h3, k3⟩ := k2.uncons
     obtain ⟨v4, l4, rfl, h4, k4⟩ := k3.uncons
     obtain ⟨v5, l5, rfl, h5, k5⟩ := k4.uncons
     obtain ⟨v6, l6, rfl, h6, k6⟩ := k5.uncons
     obtain ⟨v7, l7, rfl, h7, k7⟩ := k6.uncons
     obtain ⟨v8, l8, rfl, h8, k8⟩ := k7.uncons
     rw [k8.unnil, A.h2 ρ _ _ _ hx h1, C.h2 ρ _ _ _ hy h2, D.h2 ρ _ _ _ hz h3, G.h2 ρ _ _ _ hu h4, H.h2 ρ _ _ _ hv h5, J.h2 ρ _ _ _ hw h6, K.h2 ρ _ _ _ hp h7, L.h2 ρ _ _ _ ho h8]
   . cases hg
 . cases hg
theorem ftE_ok : EnvOk PR (ftE ftX) :=
 envA_ok eqsT_ok (TabPOk.cons exY_ok (TabPOk.cons FGY_ok (TabPOk.cons FIY_ok (TabPOk.cons rfg_ok (TabPOk.cons rft_ok (TabPOk.cons is_ok (TabPOk.cons rS_ok (TabPOk.cons rX_ok TabPOk.nil)))))))) (TabHOk.cons wr_ent rW_ok TabHOk.nil) TabLOk.nil TabAOk.nil
theorem ft_ctx : Ctx PR (ftE ftX) ftS (fun _ => none) 30 4 :=
 ctxB ftE_ok mixed (by kernel_rfl)
theorem law_pure : PureOk PR 4 (fn8 (kInt .i64) cKz.agg cKz.agg cKz.agg c6.agg c6.agg c6.agg c6.agg kBool (fun _ _ _ _ _ _ _ _ => true)) :=
 pure8 ft_ctx fun s b k g c a d z => law_all s b k g c a d z
theorem law_fn (s : Int) (b k g : Kz) (c a d z : W6) : fn8 (kInt .i64) cKz.agg cKz.agg cKz.agg c6.agg c6.agg c6.agg c6.agg kBool (fun _ _ _ _ _ _ _ _ => true) [(kInt .i64).enc s, cKz.agg.enc b, cKz.agg.enc k, cKz.agg.enc g, c6.agg.enc c, c6.agg.enc a, c6.agg.enc d, c6.agg.enc z] = some (true, kBool.enc true) := by kernel_rfl
theorem law_rvs (s : Int) (b k g : Kz) (c a d z : W6) (ρ : Ren) : Rvs ρ [(kInt .i64).enc s, cKz.agg.enc b, cKz.agg.enc k, cKz.agg.enc g, c6.agg.enc c, c6.agg.enc a, c6.agg.enc d, c6.agg.enc z] [(kInt .i64).val s, cKz.agg.val b, cKz.agg.val k, cKz.agg.val g, c6.agg.val c, c6.agg.val a, c6.agg.val d, c6.agg.val z] :=
 Rvs.of_flatL (by simp [flatL, (kInt .i64).h1, c6.agg.h1, cKz.agg.h1])
end Go.Rq.Rf
