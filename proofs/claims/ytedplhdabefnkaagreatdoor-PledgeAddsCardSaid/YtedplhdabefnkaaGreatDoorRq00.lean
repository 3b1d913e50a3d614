import Derived.Orders
import Derived.Below
import Derived.KernelRfl
import GoSem.Claim
namespace Go.Rq
open Go
inductive AV where
 | any
 | v (x:Value)
 | lit (b:Bool)
 | u (x:BitVec 64)
 | bit (b:Bool)
 | ptr (id off:Nat)
 | slc (id off len cap:Nat)
 | own (id es k len:Nat)
 | agg (cs:List AV)
 | tup (cs:List AV)
 | fn (f:Fn) (first cap:List AV)
 | ifc (t:TypeId) (x:AV)
 | mp (id:Nat)
 | mk
 deriving Inhabited
structure Ren where
 f:Nat->Option Nat
 cells:Nat->Nat
 base:Nat->Nat
instance:CoeFun Ren (fun _=>Nat->Option Nat):=⟨Ren.f⟩
def Ren.cut (ρ:Ren) (n:Nat):Ren:=⟨fun id=>if id < n then ρ.f id else none,ρ.cells,ρ.base⟩
def Ren.empty:Ren:=⟨fun _=>none,fun _=>0,fun _=>0⟩
structure Ren.eqAt (ρ' ρ:Ren) (id:Nat):Prop where
 f:ρ' id=ρ id
 cells:∀ b,ρ id=some b->ρ'.cells id=ρ.cells id /\ ρ'.base id=ρ.base id
theorem Ren.eqAt.refl (ρ:Ren) (id:Nat):Ren.eqAt ρ ρ id:=⟨rfl,fun _ _=>⟨rfl,rfl⟩⟩
theorem Ren.eqAt.trans {ρ σ τ:Ren} {id:Nat} (h:Ren.eqAt ρ σ id) (k:Ren.eqAt σ τ id):Ren.eqAt ρ τ id :=
 ⟨h.f.trans k.f,fun b e=>⟨(h.cells b (k.f.trans e)).1.trans (k.cells b e).1,(h.cells b (k.f.trans e)).2.trans (k.cells b e).2⟩⟩
theorem Ren.cut_lt {ρ:Ren} {n id:Nat} (h:id < n):ρ.cut n id=ρ id:=if_pos h
theorem Ren.cut_ge {ρ:Ren} {n id:Nat} (h:n <= id):ρ.cut n id=none:=if_neg (by omega)
theorem Ren.cut_some {ρ:Ren} {n id b:Nat} (h:ρ.cut n id=some b):id < n /\ ρ id=some b:=by
 by_cases hn:id < n
 . rw [Ren.cut_lt hn] at h;exact ⟨hn,h⟩
 . rw [Ren.cut_ge (by omega)] at h;cases h
def uval (x:BitVec 64):Value:=.int .u64 (Int.ofNat x.toNat)
def bitW (b:Bool):BitVec 64:=bif b then 1#64 else 0#64
inductive Rv (ρ:Ren):AV->Value->Prop
 | any (x:Value):Rv ρ .any x
 | v (x:Value):Rv ρ (.v x) x
 | lit (b:Bool):Rv ρ (.lit b) (.bool b)
 | u (x:BitVec 64):Rv ρ (.u x) (uval x)
 | bit (b:Bool):Rv ρ (.bit b) (uval (bitW b))
 | ptr {id off b:Nat} (h:ρ id=some b):Rv ρ (.ptr id off) (.pointer (some ⟨b,ρ.base id+off,none⟩))
 | slc {id off len cap b:Nat} (h:ρ id=some b):Rv ρ (.slc id off len cap) (.slice (some ⟨b,ρ.base id+off,none⟩) len cap)
 | own {id es k len b cap:Nat} (h:ρ id=some b) (h0:ρ.base id=0) (hc:cap*es=ρ.cells id) (hl:k+len <= cap) (hm:cap <= maxLen):Rv ρ (.own id es k len) (.slice (some ⟨b,k*es,none⟩) len (cap - k))
 | ownE {id es k b j cap:Nat} (h:ρ id=some b) (hk:0 < k):Rv ρ (.own id es k 0) (.slice (some ⟨b,j,none⟩) 0 cap)
 | agg {cs:List AV} {xs:Array Value} (hl:cs.length=xs.size)
  (h:∀ (i:Nat) (a:AV) (x:Value),cs[i]?=some a->xs[i]?=some x->Rv ρ a x):Rv ρ (.agg cs) (.agg xs)
 | tup {cs:List AV} {xs:Array Value} (hl:cs.length=xs.size)
  (h:∀ (i:Nat) (a:AV) (x:Value),cs[i]?=some a->xs[i]?=some x->Rv ρ a x):Rv ρ (.tup cs) (.tuple xs)
 | fn {f:Fn} {as bs:List AV} {xs ys:Array Value} (hl:as.length=xs.size)
  (h:∀ (i:Nat) (a:AV) (x:Value),as[i]?=some a->xs[i]?=some x->Rv ρ a x) (kl:bs.length=ys.size)
  (k:∀ (i:Nat) (a:AV) (x:Value),bs[i]?=some a->ys[i]?=some x->Rv ρ a x):Rv ρ (.fn f as bs) (.func f xs ys)
 | ifc {t:TypeId} {a:AV} {x:Value} (h:Rv ρ a x):Rv ρ (.ifc t a) (.iface t x)
 | mp {id b:Nat} (h:ρ id=some b):Rv ρ (.mp id) (.map (some b))
def Ren.le (ρ ρ':Ren):Prop:=∀ id b,ρ id=some b->ρ' id=some b /\ ρ'.cells id=ρ.cells id /\ ρ'.base id=ρ.base id
theorem Ren.le_refl (ρ:Ren):ρ.le ρ:=fun _ _ h=>⟨h,rfl,rfl⟩
theorem Ren.le_trans {ρ σ τ:Ren} (h:ρ.le σ) (k:σ.le τ):ρ.le τ:=fun _ _ e=>⟨(k _ _ (h _ _ e).1).1,(k _ _ (h _ _ e).1).2.1.trans (h _ _ e).2.1,(k _ _ (h _ _ e).1).2.2.trans (h _ _ e).2.2⟩
theorem Rv.mono {ρ ρ':Ren} (hle:ρ.le ρ') {a:AV} {x:Value} (h:Rv ρ a x):Rv ρ' a x:=by
 induction h with
 | any x=>exact .any x
 | v x=>exact .v x
 | lit b=>exact .lit b
 | u x=>exact .u x
 | bit b=>exact .bit b
 | ptr h=>rw [<- (hle _ _ h).2.2];exact .ptr (hle _ _ h).1
 | slc h=>rw [<- (hle _ _ h).2.2];exact .slc (hle _ _ h).1
 | own h h0 hc hl hm=>exact .own (hle _ _ h).1 ((hle _ _ h).2.2.trans h0) (hc.trans (hle _ _ h).2.1.symm) hl hm
 | ownE h hk=>exact .ownE (hle _ _ h).1 hk
 | agg hl _ ih=>exact .agg hl ih
 | tup hl _ ih=>exact .tup hl ih
 | fn hl _ kl _ ih ik=>exact .fn hl ih kl ik
 | ifc _ ih=>exact .ifc ih
 | mp h=>exact .mp (hle _ _ h).1
def Rvs (ρ:Ren) (as:List AV) (xs:List Value):Prop :=
 as.length=xs.length /\ ∀ (i:Nat) (a:AV) (x:Value),as[i]?=some a->xs[i]?=some x->Rv ρ a x
theorem Rvs.mono {ρ ρ':Ren} (hle:ρ.le ρ') {a:List AV} {x:List Value} (h:Rvs ρ a x):Rvs ρ' a x :=
 ⟨h.1,fun i a x ha hx=>(h.2 i a x ha hx).mono hle⟩
theorem Rvs.nil {ρ:Ren}:Rvs ρ [] []:=⟨rfl,fun i a x h=>by simp at h⟩
theorem Rvs.cons {ρ:Ren} {a:AV} {x:Value} {as:List AV} {xs:List Value} (h:Rv ρ a x) (t:Rvs ρ as xs):Rvs ρ (a :: as) (x :: xs):=by
 refine ⟨by simp [t.1],fun i b y hb hy=>?_⟩
 cases i with
 | zero=>simp at hb hy;subst hb;subst hy;exact h
 | succ i=>simp at hb hy;exact t.2 i b y hb hy
theorem Rvs.uncons {ρ:Ren} {a:AV} {as:List AV} {xs:List Value} (h:Rvs ρ (a :: as) xs) :
 ∃ x ys,xs=x :: ys /\ Rv ρ a x /\ Rvs ρ as ys:=by
 cases xs with
 | nil=>have:=h.1;simp at this
 | cons x ys =>
  refine ⟨x,ys,rfl,h.2 0 a x rfl rfl,by simpa using h.1,fun i b y hb hy=>h.2 (i+1) b y (by simpa using hb) (by simpa using hy)⟩
theorem Rvs.unnil {ρ:Ren} {xs:List Value} (h:Rvs ρ [] xs):xs=[]:=by
 cases xs with
 | nil=>rfl
 | cons x ys=>have:=h.1;simp at this
theorem Rvs.getD {ρ:Ren} {as:List AV} {xs:List Value} (h:Rvs ρ as xs) {i:Nat} {a:AV} (ha:as[i]?=some a) :
 ∃ x,xs[i]?=some x /\ Rv ρ a x:=by
 have hi:i < as.length:=(List.getElem?_eq_some_iff.1 ha).1
 have hj:i < xs.length:=by rw [<- h.1];exact hi
 exact ⟨xs[i],List.getElem?_eq_getElem hj,h.2 i a _ ha (List.getElem?_eq_getElem hj)⟩
theorem Rvs.drop {ρ:Ren} {as:List AV} {xs:List Value} (h:Rvs ρ as xs) (n:Nat):Rvs ρ (as.drop n) (xs.drop n) :=
 ⟨by simp [h.1],fun i a x ha hx=>h.2 (n+i) a x (by simpa using ha) (by simpa using hx)⟩
theorem Rvs.take {ρ:Ren} {as:List AV} {xs:List Value} (h:Rvs ρ as xs) (n:Nat):Rvs ρ (as.take n) (xs.take n):=by
 refine ⟨by simp [h.1],fun i a x ha hx=>?_⟩
 rw [List.getElem?_take] at ha hx
 split at ha
 . rename_i hlt;rw [if_pos hlt] at hx;exact h.2 i a x ha hx
 . cases ha
theorem Rvs.append {ρ:Ren} {as bs:List AV} {xs ys:List Value} (h:Rvs ρ as xs) (k:Rvs ρ bs ys):Rvs ρ (as ++ bs) (xs ++ ys):=by
 refine ⟨by simp [h.1,k.1],fun i a x ha hx=>?_⟩
 rcases Nat.lt_or_ge i as.length with hi | hi
 . rw [List.getElem?_append_left hi] at ha
   rw [List.getElem?_append_left (by rw [<- h.1];exact hi)] at hx
   exact h.2 i a x ha hx
 . rw [List.getElem?_append_right hi] at ha
   rw [List.getElem?_append_right (by rw [<- h.1];exact hi)] at hx
   exact k.2 _ a x ha (by rw [h.1];exact hx)
theorem Rvs.set {ρ:Ren} {as:List AV} {xs:List Value} (h:Rvs ρ as xs) {a:AV} {x:Value} (k:Rv ρ a x) (n:Nat) :
 Rvs ρ (as.set n a) (xs.set n x):=by
 refine ⟨by simp [h.1],fun i b y hb hy=>?_⟩
 rw [List.getElem?_set] at hb hy
 by_cases hi:n=i
 . subst hi
   rw [if_pos rfl] at hb hy
   split at hb
   . rename_i hlt
     rw [if_pos (by rw [<- h.1];exact hlt)] at hy
     simp at hb hy;subst hb;subst hy;exact k
   . cases hb
 . rw [if_neg hi] at hb hy;exact h.2 i b y hb hy
theorem Rv.agg_iff {ρ:Ren} {cs:List AV} {y:Value} (h:Rv ρ (.agg cs) y):∃ xs:Array Value,y=.agg xs /\ Rvs ρ cs xs.toList:=by
 cases h with
 | agg hl h=>exact ⟨_,rfl,by simpa using hl,fun i a x ha hx=>h i a x ha (by simpa using hx)⟩
theorem Rv.agg_mk {ρ:Ren} {cs:List AV} {xs:List Value} (h:Rvs ρ cs xs):Rv ρ (.agg cs) (.agg xs.toArray) :=
 .agg (by simpa using h.1) fun i a x ha hx=>h.2 i a x ha (by simpa using hx)
theorem Rv.tup_iff {ρ:Ren} {cs:List AV} {y:Value} (h:Rv ρ (.tup cs) y):∃ xs:Array Value,y=.tuple xs /\ Rvs ρ cs xs.toList:=by
 cases h with
 | tup hl h=>exact ⟨_,rfl,by simpa using hl,fun i a x ha hx=>h i a x ha (by simpa using hx)⟩
theorem Rv.tup_mk {ρ:Ren} {cs:List AV} {xs:List Value} (h:Rvs ρ cs xs):Rv ρ (.tup cs) (.tuple xs.toArray) :=
 .tup (by simpa using h.1) fun i a x ha hx=>h.2 i a x ha (by simpa using hx)
theorem Rv.fn_iff {ρ:Ren} {f:Fn} {as bs:List AV} {y:Value} (h:Rv ρ (.fn f as bs) y) :
 ∃ xs ys:Array Value,y=.func f xs ys /\ Rvs ρ as xs.toList /\ Rvs ρ bs ys.toList:=by
 cases h with
 | fn hl h kl k =>
  exact ⟨_,_,rfl,⟨by simpa using hl,fun i a x ha hx=>h i a x ha (by simpa using hx)⟩,by simpa using kl,fun i a x ha hx=>k i a x ha (by simpa using hx)⟩
theorem Rv.fn_mk {ρ:Ren} {f:Fn} {as bs:List AV} {xs ys:List Value} (h:Rvs ρ as xs) (k:Rvs ρ bs ys) :
 Rv ρ (.fn f as bs) (.func f xs.toArray ys.toArray) :=
 .fn (by simpa using h.1) (fun i a x ha hx=>h.2 i a x ha (by simpa using hx)) (by simpa using k.1) (fun i a x ha hx=>k.2 i a x ha (by simpa using hx))
def scal:AV->Option Value
 | .v x=>some x
 | .lit b=>some (.bool b)
 | .u x=>some (uval x)
 | .bit b=>some (uval (bitW b))
 | .fn f [] []=>some (.func f #[] #[])
 | _=>none
theorem Rv.scal_eq {ρ:Ren} {a:AV} {x y:Value} (h:Rv ρ a x) (e:scal a=some y):x=y:=by
 unfold scal at e
 split at e
 . cases h;simpa using e
 . cases h;simpa using e
 . cases h;simpa using e
 . cases h;simpa using e
 . obtain ⟨xs,ys,rfl,hx,hy⟩:=h.fn_iff
   have h1:=hx.unnil
   have h2:=hy.unnil
   simp at h1 h2;subst h1;subst h2;simpa using e
 . cases e
theorem Rv.of_scal {ρ:Ren} {a:AV} {y:Value} (e:scal a=some y):Rv ρ a y:=by
 unfold scal at e
 split at e
 . simp at e;subst e;exact .v _
 . simp at e;subst e;exact .lit _
 . simp at e;subst e;exact .u _
 . simp at e;subst e;exact .bit _
 . simp at e;subst e;exact .fn_mk .nil .nil
 . cases e
def flats:List AV->Option (List Value)
 | []=>some []
 | a :: t=>match scal a with
  | none=>none
  | some x=>match flats t with
   | some l=>some (x :: l)
   | none=>none
def flatA:AV->Option Value
 | .agg cs=>match flats cs with
  | some l=>some (.agg l.toArray)
  | none=>none
 | .ifc t (.v x)=>some (.iface t x)
 | a=>scal a
def flatsA:List AV->Option (List Value)
 | []=>some []
 | a :: t=>match flatA a with
  | none=>none
  | some x=>match flatsA t with
   | some l=>some (x :: l)
   | none=>none
def flat:AV->Option Value
 | .agg cs=>match flats cs with
  | some l=>some (.agg l.toArray)
  | none=>none
 | .tup cs=>match flatsA cs with
  | some l=>some (.tuple l.toArray)
  | none=>none
 | .ifc t (.v x)=>some (.iface t x)
 | .fn f [] []=>some (.func f #[] #[])
 | a=>scal a
theorem Rvs.flats_eq {ρ:Ren}:∀ {as:List AV} {xs l:List Value},Rvs ρ as xs->flats as=some l->xs=l
 | [],xs,l,h,e=>by simp [flats] at e;subst e;exact h.unnil
 | a :: t,xs,l,h,e=>by
  obtain ⟨x,ys,rfl,hx,ht⟩:=h.uncons
  simp only [flats] at e
  split at e
  . cases e
  . rename_i y hy
    split at e
    . rename_i m hm;simp at e;subst e;rw [hx.scal_eq hy,Rvs.flats_eq ht hm]
    . cases e
theorem Rvs.of_flats {ρ:Ren}:∀ {as:List AV} {l:List Value},flats as=some l->Rvs ρ as l
 | [],l,e=>by simp [flats] at e;subst e;exact .nil
 | a :: t,l,e=>by
  simp only [flats] at e
  split at e
  . cases e
  . rename_i y hy
    split at e
    . rename_i m hm;simp at e;subst e;exact .cons (.of_scal hy) (Rvs.of_flats hm)
    . cases e
theorem Rv.flatA_eq {ρ:Ren} {a:AV} {x y:Value} (h:Rv ρ a x) (e:flatA a=some y):x=y:=by
 unfold flatA at e
 split at e
 . split at e
   . rename_i l hl
     obtain ⟨xs,rfl,hx⟩:=h.agg_iff
     have:=hx.flats_eq hl
     simp at e;subst e;subst this;simp
   . cases e
 . cases h with | ifc h=>cases h;simpa using e
 . exact h.scal_eq e
theorem Rv.of_flatA {ρ:Ren} {a:AV} {y:Value} (e:flatA a=some y):Rv ρ a y:=by
 unfold flatA at e
 split at e
 . split at e
   . rename_i l hl;simp at e;subst e;exact .agg_mk (.of_flats hl)
   . cases e
 . simp at e;subst e;exact .ifc (.v _)
 . exact .of_scal e
theorem Rvs.flatsA_eq {ρ:Ren}:∀ {as:List AV} {xs l:List Value},Rvs ρ as xs->flatsA as=some l->xs=l
 | [],xs,l,h,e=>by simp [flatsA] at e;subst e;exact h.unnil
 | a :: t,xs,l,h,e=>by
  obtain ⟨x,ys,rfl,hx,ht⟩:=h.uncons
  simp only [flatsA] at e
  split at e
  . cases e
  . rename_i y hy
    split at e
    . rename_i m hm;simp at e;subst e;rw [hx.flatA_eq hy,Rvs.flatsA_eq ht hm]
    . cases e
theorem Rvs.of_flatsA {ρ:Ren}:∀ {as:List AV} {l:List Value},flatsA as=some l->Rvs ρ as l
 | [],l,e=>by simp [flatsA] at e;subst e;exact .nil
 | a :: t,l,e=>by
  simp only [flatsA] at e
  split at e
  . cases e
  . rename_i y hy
    split at e
    . rename_i m hm;simp at e;subst e;exact .cons (.of_flatA hy) (Rvs.of_flatsA hm)
    . cases e
theorem Rv.flat_eq {ρ:Ren} {a:AV} {x y:Value} (h:Rv ρ a x) (e:flat a=some y):x=y:=by
 unfold flat at e
 split at e
 . split at e
   . rename_i l hl
     obtain ⟨xs,rfl,hx⟩:=h.agg_iff
     have:=hx.flats_eq hl
     simp at e;subst e;subst this;simp
   . cases e
 . split at e
   . rename_i l hl
     obtain ⟨xs,rfl,hx⟩:=h.tup_iff
     have:=hx.flatsA_eq hl
     simp at e;subst e;subst this;simp
   . cases e
 . cases h with | ifc h=>cases h;simpa using e
 . obtain ⟨xs,ys,rfl,hx,hy⟩:=h.fn_iff
   have h1:=hx.unnil
   have h2:=hy.unnil
   simp at h1 h2;subst h1;subst h2;simpa using e
 . exact h.scal_eq e
theorem Rv.of_flat {ρ:Ren} {a:AV} {y:Value} (e:flat a=some y):Rv ρ a y:=by
 unfold flat at e
 split at e
 . split at e
   . rename_i l hl;simp at e;subst e;exact .agg_mk (.of_flats hl)
   . cases e
 . split at e
   . rename_i l hl;simp at e;subst e;exact .tup_mk (.of_flatsA hl)
   . cases e
 . simp at e;subst e;exact .ifc (.v _)
 . simp at e;subst e;exact .fn_mk .nil .nil
 . exact .of_scal e
def cellsOf:AV->Option (List AV)
 | .agg cs=>some cs
 | .v (.agg xs)=>some (xs.toList.map .v)
 | .any=>none
 | x=>some [x]
theorem Rvs.map_v {ρ:Ren} (xs:List Value):Rvs ρ (xs.map .v) xs:=by
 induction xs with
 | nil=>exact .nil
 | cons x t ih=>exact .cons (.v x) ih
theorem Rv.cells {ρ:Ren} {a:AV} {x:Value} {cs:List AV} (h:Rv ρ a x) (e:cellsOf a=some cs):Rvs ρ cs x.cells.toList:=by
 unfold cellsOf at e
 split at e
 . obtain ⟨xs,rfl,hx⟩:=h.agg_iff
   simp at e;subst e;simpa [Value.cells] using hx
 . rename_i xs;cases h;simp at e;subst e;simpa [Value.cells] using Rvs.map_v _
 . cases e
 . rename_i h1 h2 h3
   simp at e;subst e
   have:x.cells=#[x]:=by
    cases h with
    | any=>exact absurd rfl h3
    | v x=>cases x <;> first | rfl | exact absurd rfl (h2 _)
    | lit b=>rfl
    | u x=>rfl
    | bit b=>rfl
    | ptr _=>rfl
    | slc _=>rfl
    | own _ _ _ _ _=>rfl
    | ownE _ _=>rfl
    | agg _ _=>exact absurd rfl (h1 _)
    | tup _ _=>rfl
    | fn _ _ _ _=>rfl
    | ifc _=>rfl
    | mp _=>rfl
   rw [this]
   exact .cons h .nil
def shaK:List Value:=[.int .u32 1116352408,.int .u32 1899447441,.int .u32 3049323471,.int .u32 3921009573,.int .u32 961987163,.int .u32 1508970993,.int .u32 2453635748,.int .u32 2870763221,.int .u32 3624381080,.int .u32 310598401,.int .u32 607225278,.int .u32 1426881987,.int .u32 1925078388,.int .u32 2162078206,.int .u32 2614888103,.int .u32 3248222580,.int .u32 3835390401,.int .u32 4022224774,.int .u32 264347078,.int .u32 604807628,.int .u32 770255983,.int .u32 1249150122,.int .u32 1555081692,.int .u32 1996064986,.int .u32 2554220882,.int .u32 2821834349,.int .u32 2952996808,.int .u32 3210313671,.int .u32 3336571891,.int .u32 3584528711,.int .u32 113926993,.int .u32 338241895,.int .u32 666307205,.int .u32 773529912,.int .u32 1294757372,.int .u32 1396182291,.int .u32 1695183700,.int .u32 1986661051,.int .u32 2177026350,.int .u32 2456956037,.int .u32 2730485921,.int .u32 2820302411,.int .u32 3259730800,.int .u32 3345764771,.int .u32 3516065817,.int .u32 3600352804,.int .u32 4094571909,.int .u32 275423344,.int .u32 430227734,.int .u32 506948616,.int .u32 659060556,.int .u32 883997877,.int .u32 958139571,.int .u32 1322822218,.int .u32 1537002063,.int .u32 1747873779,.int .u32 1955562222,.int .u32 2024104815,.int .u32 2227730452,.int .u32 2361852424,.int .u32 2428436474,.int .u32 2756734187,.int .u32 3204031479,.int .u32 3329325298]
def gTab:Nat->Option (List Value)
 | 0=>some shaK
 | _=>none
structure Blk where
 wr:Bool
 ty:TypeId
 cs:List AV
abbrev AH:=List (Nat × Option Blk)
def AH.get:AH->Nat->Option Blk
 | [],_=>none
 | (i,b) :: t,id=>bif Nat.beq i id then b else AH.get t id
theorem AH.get_cons (i:Nat) (b:Option Blk) (t:AH) (id:Nat):AH.get ((i,b) :: t) id=if i=id then b else AH.get t id:=by
 simp only [AH.get]
 by_cases h:i=id
 . subst h;simp
 . have:Nat.beq i id=false:=by
    cases hb:Nat.beq i id with
    | false=>rfl
    | true=>exact absurd (Nat.eq_of_beq_eq_true hb) h
   simp [this,h]
def flatM:List MapEntry->List Value
 | []=>[]
 | e :: t=>e.key :: e.val :: flatM t
def Blk.cell (B:Blk):Bool:=match B.cs with
 | .mk :: _=>false
 | _=>true
def AH.getC (h:AH) (i:Nat):Option Blk:=match AH.get h i with
 | some B=>match B.cell with
  | true=>some B
  | false=>none
 | none=>none
theorem getC_some {h:AH} {i:Nat} {B:Blk} (e:h.getC i=some B):h.get i=some B /\ B.cell=true:=by
 unfold AH.getC at e
 split at e
 . rename_i B' hB
   split at e
   . rename_i hc;simp at e;subst e;exact ⟨hB,hc⟩
   . cases e
 . cases e
theorem getC_get {h:AH} {i:Nat} {B:Blk} (e:h.getC i=some B):h.get i=some B:=(getC_some e).1
theorem getC_mk {h:AH} {i:Nat} {B:Blk} (e:h.get i=some B) (c:B.cell=true):h.getC i=some B:=by
 unfold AH.getC;rw [e];simp only [c]
theorem getC_mono {h h':AH} {i:Nat} (hh:∀ B,h.get i=some B->h'.get i=some B) {B:Blk} (e:h.getC i=some B):h'.getC i=some B:=getC_mk (hh B (getC_some e).1) (getC_some e).2
theorem getC_congr {h h':AH} {i:Nat} (hh:h.get i=h'.get i):h.getC i=h'.getC i:=by unfold AH.getC;rw [hh]
def RC (ρ:Ren) (id:Nat) (B:Blk) (o:Obj):Prop :=
 ∃ xs fr,o=.cells xs B.ty fr /\ (B.wr=true->fr=(0,0) /\ ρ.base id=0) /\ ρ.base id+B.cs.length <= xs.size /\
  ∀ (i:Nat) (a:AV) (x:Value),B.cs[i]?=some a->xs[ρ.base id+i]?=some x->Rv ρ a x
def RB (ρ:Ren) (id:Nat) (B:Blk) (o:Obj):Prop :=
 RC ρ id B o \/ ∃ es clock t,o=.map es clock /\ B.cs=.mk :: t /\ Rvs ρ t (flatM es.toList)
theorem RB.cells {ρ:Ren} {id:Nat} {B:Blk} {o:Obj} (h:RB ρ id B o) (hc:B.cell=true):RC ρ id B o:=by
 rcases h with h | ⟨es,clock,t,-,h2,-⟩
 . exact h
 . unfold Blk.cell at hc;rw [h2] at hc;cases hc
theorem RB.maps {ρ:Ren} {id:Nat} {B:Blk} {o:Obj} {t:List AV} (h:RB ρ id B o) (hc:B.cs=.mk :: t):∃ es clock,o=.map es clock /\ Rvs ρ t (flatM es.toList):=by
 rcases h with ⟨xs,fr,-,-,h4,h5⟩ | ⟨es,clock,t',h1,h2,h3⟩
 . rw [hc] at h4 h5
   simp only [List.length_cons] at h4
   have hlt:ρ.base id+0 < xs.size:=by omega
   cases h5 0 .mk _ rfl (Array.getElem?_eq_getElem hlt)
 . rw [hc] at h2;simp at h2;subst h2;exact ⟨es,clock,h1,h3⟩
theorem RB.of {ρ:Ren} {id:Nat} {B:Blk} {xs:Array Value} {fr:Nat × Nat} (h1:B.wr=true->fr=(0,0) /\ ρ.base id=0) (h2:ρ.base id+B.cs.length <= xs.size)
 (h3:∀ (i:Nat) (a:AV) (x:Value),B.cs[i]?=some a->xs[ρ.base id+i]?=some x->Rv ρ a x):RB ρ id B (.cells xs B.ty fr):=.inl ⟨xs,fr,rfl,h1,h2,h3⟩
theorem Rvs.mapF {ρ ρ':Ren} {f:AV->AV}:∀ {as:List AV} {xs:List Value},(∀ a ∈ as,∀ x,Rv ρ a x->Rv ρ' (f a) x)->Rvs ρ as xs->Rvs ρ' (as.map f) xs
 | [],xs,_,h=>by rw [h.unnil];exact .nil
 | a :: t,xs,hf,h=>by
  obtain ⟨x,ys,rfl,hx,ht⟩:=h.uncons
  exact .cons (hf a (by simp) x hx) (Rvs.mapF (fun b hb=>hf b (by simp [hb])) ht)
theorem RB.turn {ρ ρ':Ren} {id id':Nat} {B B':Blk} {o:Obj} (f:AV->AV) (h:RB ρ id B o) (hb:ρ'.base id'=ρ.base id) (hw:B'.wr=true->B.wr=true) (ht:B'.ty=B.ty) (hm:f .mk=.mk) (hc:B'.cs=B.cs.map f)
 (hf:∀ a ∈ B.cs,∀ x,Rv ρ a x->Rv ρ' (f a) x):RB ρ' id' B' o:=by
 rcases h with ⟨xs,fr,ho,hfr,hl,hx⟩ | ⟨es,clock,t,h1,h2,h3⟩
 . refine .inl ⟨xs,fr,by rw [ht];exact ho,fun hh=>⟨(hfr (hw hh)).1,hb.trans (hfr (hw hh)).2⟩,by rw [hb,hc];simpa using hl,fun i a x ha hy=>?_⟩
   rw [hc,List.getElem?_map] at ha
   cases hi:B.cs[i]? with
   | none=>rw [hi] at ha;cases ha
   | some a0 =>
    rw [hi] at ha;simp at ha;subst ha
    exact hf a0 (List.mem_of_getElem? hi) x (hx i a0 x hi (by rw [<- hb];exact hy))
 . refine .inr ⟨es,clock,t.map f,h1,by rw [hc,h2,List.map_cons,hm],h3.mapF (fun a ha x hx=>hf a (by rw [h2];simp [ha]) x hx)⟩
theorem RB.keep {ρ ρ':Ren} {id id':Nat} {B B':Blk} {o:Obj} (h:RB ρ id B o) (hb:ρ'.base id'=ρ.base id) (hw:B'.wr=true->B.wr=true) (ht:B'.ty=B.ty) (hc:B'.cs=B.cs)
 (hf:∀ a ∈ B.cs,∀ x,Rv ρ a x->Rv ρ' a x):RB ρ' id' B' o:=h.turn (fun a=>a) hb hw ht rfl (by simpa using hc) hf
theorem RB.mono {ρ ρ':Ren} (hle:ρ.le ρ') {id b:Nat} (hb:ρ id=some b) {B:Blk} {o:Obj} (h:RB ρ id B o):RB ρ' id B o :=
 h.keep (hle _ _ hb).2.2 (fun hh=>hh) rfl rfl (fun _ _ _ hx=>hx.mono hle)
structure Fr where
 blocks:Nat->Option Obj
 os:Os
 tape:Nat->Question->Nat
 out:Array (Nat × ByteArray)
def count:Obj->Nat
 | .cells xs _ _=>xs.size
 | _=>0
def GW (w:World):Prop:=∀ g cs,gTab g=some cs->∃ xs ty fr,w.heap[g]?=some (.cells xs ty fr) /\ xs.toList=cs
def GF (F:Fr):Prop:=∀ g cs,gTab g=some cs->∃ xs ty fr,F.blocks g=some (.cells xs ty fr) /\ xs.toList=cs
structure RW (F:Fr) (ρ:Ren) (h:AH) (w:World):Prop where
 blk:∀ id B,h.get id=some B->∃ b o,ρ id=some b /\ w.heap[b]?=some o /\ RB ρ id B o /\ (B.wr=true->F.blocks b=none) /\ count o=ρ.cells id
 inj:∀ id id' B B' b,h.get id=some B->h.get id'=some B'->B.wr=true->ρ id=some b->ρ id'=some b->id=id'
 fr:∀ b o,F.blocks b=some o->w.heap[b]?=some o
 os:w.os=F.os
 tape:w.tape=F.tape
 out:w.output=F.out
 gc:GF F
theorem RW.blkC {F:Fr} {ρ:Ren} {h:AH} {w:World} (r:RW F ρ h w) {id:Nat} {B:Blk} (e:h.getC id=some B) :
 ∃ b o,ρ id=some b /\ w.heap[b]?=some o /\ RC ρ id B o /\ (B.wr=true->F.blocks b=none) /\ count o=ρ.cells id:=by
 obtain ⟨b,o,h1,h2,h3,h4⟩:=r.blk id B (getC_get e)
 exact ⟨b,o,h1,h2,h3.cells (getC_some e).2,h4⟩
theorem cell_flats {B:Blk} {l:List Value} (h:flats B.cs=some l):B.cell=true:=by
 unfold Blk.cell
 split
 . rename_i t hc;rw [hc] at h;simp [flats,scal] at h
 . rfl
theorem RW.blkF {F:Fr} {ρ:Ren} {h:AH} {w:World} (r:RW F ρ h w) {id:Nat} {B:Blk} (e:h.get id=some B) {l:List Value} (hf:flats B.cs=some l) :
 ∃ b o,ρ id=some b /\ w.heap[b]?=some o /\ RC ρ id B o /\ (B.wr=true->F.blocks b=none) /\ count o=ρ.cells id:=r.blkC (getC_mk e (cell_flats hf))
theorem RW.gw {F:Fr} {ρ:Ren} {h:AH} {w:World} (r:RW F ρ h w):GW w:=fun g cs e=>by
 obtain ⟨xs,ty,fr,h1,h2⟩:=r.gc g cs e
 exact ⟨xs,ty,fr,r.fr _ _ h1,h2⟩
theorem RW.congr {F:Fr} {ρ:Ren} {h h':AH} {w:World} (e:∀ id,h'.get id=h.get id) (r:RW F ρ h w):RW F ρ h' w :=
 ⟨fun id B hb=>r.blk id B (by rw [<- e];exact hb),fun id id' B B' b hb hb'=>r.inj id id' B B' b (by rw [<- e];exact hb) (by rw [<- e];exact hb'),
  r.fr,r.os,r.tape,r.out,r.gc⟩
theorem RW.sub {F:Fr} {ρ:Ren} {h h':AH} {w:World} (e:∀ id B,h'.get id=some B->h.get id=some B) (r:RW F ρ h w):RW F ρ h' w :=
 ⟨fun id B hb=>r.blk id B (e _ _ hb),fun id id' B B' b hb hb'=>r.inj id id' B B' b (e _ _ hb) (e _ _ hb'),r.fr,r.os,r.tape,r.out,r.gc⟩
theorem RW.drawn {F:Fr} {ρ:Ren} {h:AH} {w:World} (r:RW F ρ h w) (n:Nat):RW F ρ h { w with drawn:=n } :=
 ⟨r.blk,r.inj,r.fr,r.os,r.tape,r.out,r.gc⟩
def Ren.upd (ρ:Ren) (id b n:Nat):Ren:=⟨fun j=>if j=id then some b else ρ j,fun j=>if j=id then n else ρ.cells j,fun j=>if j=id then 0 else ρ.base j⟩
theorem Ren.le_upd {ρ:Ren} {id b n:Nat} (h:ρ id=none):ρ.le (ρ.upd id b n):=fun j c e=>by
 have hj:j ≠ id:=by rintro rfl;rw [h] at e;cases e
 exact ⟨by simp [Ren.upd,hj];exact e,by simp [Ren.upd,hj],by simp [Ren.upd,hj]⟩
theorem Ren.upd_same (ρ:Ren) (id b n:Nat):ρ.upd id b n id=some b:=by simp [Ren.upd]
theorem Ren.upd_base (ρ:Ren) (id b n:Nat):(ρ.upd id b n).base id=0:=by simp [Ren.upd]
theorem Ren.upd_cells (ρ:Ren) (id b n:Nat):(ρ.upd id b n).cells id=n:=by simp [Ren.upd]
theorem Rv.ptr0 {ρ:Ren} {id off b:Nat} (h:ρ id=some b) (h0:ρ.base id=0):Rv ρ (.ptr id off) (.pointer (some ⟨b,off,none⟩)):=by
 have:=Rv.ptr (off:=off) h
 rw [h0,Nat.zero_add] at this
 exact this
theorem Rv.slc0 {ρ:Ren} {id off len cap b:Nat} (h:ρ id=some b) (h0:ρ.base id=0):Rv ρ (.slc id off len cap) (.slice (some ⟨b,off,none⟩) len cap):=by
 have:=Rv.slc (off:=off) (len:=len) (cap:=cap) h
 rw [h0,Nat.zero_add] at this
 exact this
theorem Rv.ptrU {ρ:Ren} {id off b n:Nat}:Rv (ρ.upd id b n) (.ptr id off) (.pointer (some ⟨b,off,none⟩)):=.ptr0 (Ren.upd_same _ _ _ _) (Ren.upd_base _ _ _ _)
theorem Rv.slcU {ρ:Ren} {id off len cap b n:Nat}:Rv (ρ.upd id b n) (.slc id off len cap) (.slice (some ⟨b,off,none⟩) len cap):=.slc0 (Ren.upd_same _ _ _ _) (Ren.upd_base _ _ _ _)
theorem Ren.upd_ne (ρ:Ren) {id b n j:Nat} (h:j ≠ id):ρ.upd id b n j=ρ j:=by simp [Ren.upd,h]
theorem RW.lt {F:Fr} {ρ:Ren} {h:AH} {w:World} (r:RW F ρ h w) {id:Nat} {B:Blk} (hb:h.get id=some B):∃ b,ρ id=some b /\ b < w.heap.size:=by
 obtain ⟨b,o,hr,ho,_⟩:=r.blk id B hb
 exact ⟨b,hr,(Array.getElem?_eq_some_iff.1 ho).1⟩
theorem RW.allocP {F:Fr} {ρ:Ren} {h:AH} {w:World} (r:RW F ρ h w) {id:Nat} (hid:ρ id=none) (wr:Bool) (ty:TypeId) (cs:List AV) (xs:List Value)
 (hl:cs.length <= xs.length) (hx:∀ (i:Nat) (a:AV) (x:Value),cs[i]?=some a->xs[i]?=some x->Rv ρ a x) :
 RW F (ρ.upd id w.heap.size xs.length) ((id,some ⟨wr,ty,cs⟩) :: h) { w with heap:=w.heap.push (.cells xs.toArray ty) }:=by
 have hle:=Ren.le_upd (b:=w.heap.size) (n:=xs.length) hid
 refine ⟨fun j B hj=>?_,fun j j' B B' b hj hj' hw hb hb'=>?_,fun b o ho=>?_,r.os,r.tape,r.out,r.gc⟩
 . rw [AH.get_cons] at hj
   split at hj
   . rename_i e;subst e;simp at hj;subst hj
     refine ⟨w.heap.size,.cells xs.toArray ty (0,0),Ren.upd_same _ _ _ _,by simp,RB.of (fun _=>⟨rfl,Ren.upd_base _ _ _ _⟩) (by rw [Ren.upd_base];simpa using hl) ?_,fun _=>?_,by simp [count,Ren.upd_cells]⟩
     . intro i a x ha hx'
       rw [Ren.upd_base,Nat.zero_add] at hx'
       exact (hx i a x ha (by simpa using hx')).mono hle
     . cases hF:F.blocks w.heap.size with
       | none=>rfl
       | some o=>have:=r.fr _ _ hF;simp at this
   . rename_i e
     obtain ⟨b,o,hb,ho,hB,hk⟩:=r.blk j B hj
     have hlt:=(Array.getElem?_eq_some_iff.1 ho).1
     refine ⟨b,o,(hle _ _ hb).1,?_,hB.mono hle hb,hk.1,hk.2.trans (hle _ _ hb).2.1.symm⟩
     show (w.heap.push _)[b]?=_
     rw [Array.getElem?_push,if_neg (by omega)];exact ho
 . have key:∀ k C,AH.get ((id,some ⟨wr,ty,cs⟩) :: h) k=some C->ρ.upd id w.heap.size xs.length k=some w.heap.size->k=id:=by
    intro k C hk hk'
    rw [AH.get_cons] at hk
    split at hk
    . rename_i e;exact e.symm
    . rename_i e
      obtain ⟨c,hc,hlt⟩:=r.lt hk
      have:=(hle _ _ hc).1
      rw [hk'] at this;simp at this;omega
   by_cases hs:b=w.heap.size
   . subst hs;rw [key j B hj hb,key j' B' hj' hb']
   . have n1:j ≠ id:=fun e=>by subst e;rw [Ren.upd_same] at hb;simp at hb;exact hs hb.symm
     have n2:j' ≠ id:=fun e=>by subst e;rw [Ren.upd_same] at hb';simp at hb';exact hs hb'.symm
     rw [AH.get_cons,if_neg (fun e=>n1 e.symm)] at hj
     rw [AH.get_cons,if_neg (fun e=>n2 e.symm)] at hj'
     rw [Ren.upd_ne _ n1] at hb
     rw [Ren.upd_ne _ n2] at hb'
     exact r.inj j j' B B' b hj hj' hw hb hb'
 . have:=r.fr b o ho
   have hlt:=(Array.getElem?_eq_some_iff.1 this).1
   show (w.heap.push _)[b]?=_
   rw [Array.getElem?_push,if_neg (by omega)];exact this
theorem RW.alloc {F:Fr} {ρ:Ren} {h:AH} {w:World} (r:RW F ρ h w) {id:Nat} (hid:ρ id=none) (wr:Bool) (ty:TypeId) (cs:List AV) (xs:List Value)
 (hx:Rvs ρ cs xs) :
 RW F (ρ.upd id w.heap.size xs.length) ((id,some ⟨wr,ty,cs⟩) :: h) { w with heap:=w.heap.push (.cells xs.toArray ty) } :=
 r.allocP hid wr ty cs xs (by rw [hx.1];exact Nat.le_refl _) hx.2
def setAt {α:Type} (cs:List α) (off:Nat):List α->List α
 | []=>cs
 | x :: t=>setAt (cs.set off x) (off+1) t
theorem setAt_length {α:Type} (l:List α):∀ (cs:List α) (off:Nat),(setAt cs off l).length=cs.length:=by
 induction l with
 | nil=>intros;rfl
 | cons x t ih=>intro cs off;simp [setAt,ih]
theorem Rvs.setAt {ρ:Ren}:∀ {as:List AV} {xs:List Value},Rvs ρ as xs->∀ {cs:List AV} {ys:List Value} (off:Nat),Rvs ρ cs ys ->
 Rvs ρ (Rq.setAt cs off as) (Rq.setAt ys off xs):=by
 intro as
 induction as with
 | nil=>intro xs h cs ys off k;rw [h.unnil];exact k
 | cons a t ih =>
  intro xs h cs ys off k
  obtain ⟨x,zs,rfl,hx,ht⟩:=h.uncons
  exact ih ht (off+1) (k.set hx off)
theorem RW.store {F:Fr} {ρ:Ren} {h:AH} {w w':World} (r:RW F ρ h w) {id b:Nat} {B:Blk} (hb:h.get id=some B) (hρ:ρ id=some b) (hwr:B.wr=true)
 {xs:Array Value} (hx:w.heap[b]?=some (.cells xs B.ty (0,0))) (cs':List AV) (ys:Array Value)
 (hbz:ρ.base id=0) (hsz:ys.size=xs.size) (hys:cs'.length <= ys.size) (hrel:∀ (i:Nat) (a:AV) (x:Value),cs'[i]?=some a->ys[i]?=some x->Rv ρ a x)
 (h1:w'.heap[b]?=some (.cells ys B.ty (0,0))) (h2:∀ k,k ≠ b->w'.heap[k]?=w.heap[k]?) (h3:w'.os=w.os) (h4:w'.tape=w.tape) (h5:w'.output=w.output) :
 RW F ρ ((id,some ⟨B.wr,B.ty,cs'⟩) :: h) w':=by
 obtain ⟨b0,o0,hb0,ho0,hB0,hF0,hcn⟩:=r.blk id B hb
 rw [hρ] at hb0;simp at hb0;subst hb0
 rw [hx] at ho0;simp at ho0;subst ho0
 refine ⟨fun j C hj=>?_,fun j j' C C' c hj hj' hw hc hc'=>?_,fun k o hk=>?_,h3.trans r.os,h4.trans r.tape,h5.trans r.out,r.gc⟩
 . rw [AH.get_cons] at hj
   split at hj
   . rename_i e;subst e;simp at hj;subst hj
     exact ⟨b,_,hρ,h1,.inl ⟨ys,(0,0),rfl,fun _=>⟨rfl,hbz⟩,by rw [hbz];simpa using hys,by rw [hbz];simpa using hrel⟩,fun _=>hF0 hwr,by simp only [count] at hcn ⊢;rw [hsz];exact hcn⟩
   . rename_i e
     obtain ⟨c,o,hc,ho,hC,hk⟩:=r.blk j C hj
     have hne:c ≠ b:=fun ec=>by subst ec;exact e (r.inj id j B C c hb hj hwr hρ hc)
     exact ⟨c,o,hc,by rw [h2 c hne];exact ho,hC,hk⟩
 . have get':∀ k C,AH.get ((id,some ⟨B.wr,B.ty,cs'⟩) :: h) k=some C->∃ C0,h.get k=some C0 /\ C0.wr=C.wr:=by
    intro k C hk
    rw [AH.get_cons] at hk
    split at hk
    . rename_i e;subst e;simp at hk;subst hk;exact ⟨B,hb,rfl⟩
    . exact ⟨C,hk,rfl⟩
   obtain ⟨C0,hC0,hw0⟩:=get' j C hj
   obtain ⟨C1,hC1,hw1⟩:=get' j' C' hj'
   exact r.inj j j' C0 C1 c hC0 hC1 (by rw [hw0];exact hw) hc hc'
 . have:=r.fr k o hk
   have hne:k ≠ b:=fun e=>by subst e;rw [hF0 hwr] at hk;cases hk
   rw [h2 k hne];exact this
theorem RW.allocM {F:Fr} {ρ:Ren} {h:AH} {w:World} (r:RW F ρ h w) {id:Nat} (hid:ρ id=none) (wr:Bool) (ty:TypeId) (n:Nat) :
 RW F (ρ.upd id w.heap.size 0) ((id,some ⟨wr,ty,[.mk]⟩) :: h) { w with heap:=w.heap.push (.map #[] n) }:=by
 have hle:=Ren.le_upd (b:=w.heap.size) (n:=0) hid
 refine ⟨fun j B hj=>?_,fun j j' B B' b hj hj' hw hb hb'=>?_,fun b o ho=>?_,r.os,r.tape,r.out,r.gc⟩
 . rw [AH.get_cons] at hj
   split at hj
   . rename_i e;subst e;simp at hj;subst hj
     refine ⟨w.heap.size,.map #[] n,Ren.upd_same _ _ _ _,by simp,.inr ⟨#[],n,[],rfl,rfl,.nil⟩,fun _=>?_,by simp [count,Ren.upd_cells]⟩
     cases hF:F.blocks w.heap.size with
     | none=>rfl
     | some o=>have:=r.fr _ _ hF;simp at this
   . rename_i e
     obtain ⟨b,o,hb,ho,hB,hk⟩:=r.blk j B hj
     have hlt:=(Array.getElem?_eq_some_iff.1 ho).1
     refine ⟨b,o,(hle _ _ hb).1,?_,hB.mono hle hb,hk.1,hk.2.trans (hle _ _ hb).2.1.symm⟩
     show (w.heap.push _)[b]?=_
     rw [Array.getElem?_push,if_neg (by omega)];exact ho
 . have key:∀ k C,AH.get ((id,some ⟨wr,ty,[.mk]⟩) :: h) k=some C->ρ.upd id w.heap.size 0 k=some w.heap.size->k=id:=by
    intro k C hk hk'
    rw [AH.get_cons] at hk
    split at hk
    . rename_i e;exact e.symm
    . rename_i e
      obtain ⟨c,hc,hlt⟩:=r.lt hk
      have:=(hle _ _ hc).1
      rw [hk'] at this;simp at this;omega
   by_cases hs:b=w.heap.size
   . subst hs;rw [key j B hj hb,key j' B' hj' hb']
   . have n1:j ≠ id:=fun e=>by subst e;rw [Ren.upd_same] at hb;simp at hb;exact hs hb.symm
     have n2:j' ≠ id:=fun e=>by subst e;rw [Ren.upd_same] at hb';simp at hb';exact hs hb'.symm
     rw [AH.get_cons,if_neg (fun e=>n1 e.symm)] at hj
     rw [AH.get_cons,if_neg (fun e=>n2 e.symm)] at hj'
     rw [Ren.upd_ne _ n1] at hb
     rw [Ren.upd_ne _ n2] at hb'
     exact r.inj j j' B B' b hj hj' hw hb hb'
 . have:=r.fr b o ho
   have hlt:=(Array.getElem?_eq_some_iff.1 this).1
   show (w.heap.push _)[b]?=_
   rw [Array.getElem?_push,if_neg (by omega)];exact this
theorem RW.storeM {F:Fr} {ρ:Ren} {h:AH} {w w':World} (r:RW F ρ h w) {id b:Nat} {B:Blk} (hb:h.get id=some B) (hρ:ρ id=some b) (hwr:B.wr=true)
 {es es':Array MapEntry} {n n':Nat} (hx:w.heap[b]?=some (.map es n)) (t:List AV) (hrel:Rvs ρ t (flatM es'.toList))
 (h1:w'.heap[b]?=some (.map es' n')) (h2:∀ k,k ≠ b->w'.heap[k]?=w.heap[k]?) (h3:w'.os=w.os) (h4:w'.tape=w.tape) (h5:w'.output=w.output) :
 RW F ρ ((id,some ⟨B.wr,B.ty,.mk :: t⟩) :: h) w':=by
 obtain ⟨b0,o0,hb0,ho0,hB0,hF0,hcn⟩:=r.blk id B hb
 rw [hρ] at hb0;simp at hb0;subst hb0
 rw [hx] at ho0;simp at ho0;subst ho0
 refine ⟨fun j C hj=>?_,fun j j' C C' c hj hj' hw hc hc'=>?_,fun k o hk=>?_,h3.trans r.os,h4.trans r.tape,h5.trans r.out,r.gc⟩
 . rw [AH.get_cons] at hj
   split at hj
   . rename_i e;subst e;simp at hj;subst hj
     exact ⟨b,_,hρ,h1,.inr ⟨es',n',t,rfl,rfl,hrel⟩,fun _=>hF0 hwr,by simp only [count] at hcn ⊢;exact hcn⟩
   . rename_i e
     obtain ⟨c,o,hc,ho,hC,hk⟩:=r.blk j C hj
     have hne:c ≠ b:=fun ec=>by subst ec;exact e (r.inj id j B C c hb hj hwr hρ hc)
     exact ⟨c,o,hc,by rw [h2 c hne];exact ho,hC,hk⟩
 . have get':∀ k C,AH.get ((id,some ⟨B.wr,B.ty,.mk :: t⟩) :: h) k=some C->∃ C0,h.get k=some C0 /\ C0.wr=C.wr:=by
    intro k C hk
    rw [AH.get_cons] at hk
    split at hk
    . rename_i e;subst e;simp at hk;subst hk;exact ⟨B,hb,rfl⟩
    . exact ⟨C,hk,rfl⟩
   obtain ⟨C0,hC0,hw0⟩:=get' j C hj
   obtain ⟨C1,hC1,hw1⟩:=get' j' C' hj'
   exact r.inj j j' C0 C1 c hC0 hC1 (by rw [hw0];exact hw) hc hc'
 . have:=r.fr k o hk
   have hne:k ≠ b:=fun e=>by subst e;rw [hF0 hwr] at hk;cases hk
   rw [h2 k hne];exact this
theorem Addr.add_none (b off n:Nat):(⟨b,off,none⟩:Addr).add n=⟨b,off+n,none⟩:=by
 unfold Addr.add;split
 . rename_i h;subst h;rfl
 . rfl
def pureRun {α:Type} (P:Program):Sem α->Option α
 | .pure a=>some a
 | .program k=>pureRun P (k P)
 | _=>none
theorem pureRun_run {α:Type} {P:Program} {s:Sem α} {a:α} (h:pureRun P s=some a) (w:World):s.run P w=.ok a w:=by
 induction s with
 | pure b=>simp only [pureRun,Option.some.injEq] at h;subst h;rfl
 | program k ih=>simp only [pureRun] at h;simp only [Sem.run];exact ih _ h
 | _=>simp only [pureRun] at h;cases h
theorem run_sizeOf' (P:Program) (t:TypeId) (i:TypeInfo) (h:P.info? t=some i) (w:World):(sizeOf t).run P w=.ok i.size w:=by
 simp [sizeOf,typeInfo,h]
def sz (P:Program) (t:TypeId):Option Nat:=match P.info? t with
 | some i=>some i.size
 | none=>none
theorem run_sizeOf {P:Program} {t:TypeId} {n:Nat} (h:sz P t=some n) (w:World):(sizeOf t).run P w=.ok n w:=by
 unfold sz at h
 split at h
 . rename_i i hi;simp at h;subst h;exact run_sizeOf' P t i hi w
 . cases h
def isRow:TypeDesc->Bool
 | .struct _=>true
 | .array _ _=>true
 | _=>false
theorem run_isAgg {P:Program} {t:TypeId} {d:TypeDesc} (h:P.underlying t=some d) (w:World):(isAgg t).run P w=.ok (isRow d) w:=by
 cases d <;> simp [isAgg,underlying,h,isRow]
def cut (cs:List AV) (off n:Nat):Option (List AV) :=
 bif Nat.ble (off+n) cs.length then some ((cs.drop off).take n) else none
theorem cut_some {cs l:List AV} {off n:Nat} (h:cut cs off n=some l):off+n <= cs.length /\ l=(cs.drop off).take n:=by
 unfold cut at h
 cases hb:Nat.ble (off+n) cs.length with
 | true=>rw [hb] at h;simp at h;exact ⟨Nat.le_of_ble_eq_true hb,h.symm⟩
 | false=>rw [hb] at h;simp at h
def partA (P:Program) (t:TypeId) (cs:List AV) (off:Nat):Option AV :=
 match P.underlying t with
 | none=>none
 | some d=>match isRow d with
  | true=>match sz P t with
   | none=>none
   | some n=>match cut cs off n with
    | none=>none
    | some l=>some (.agg l)
  | false=>cs[off]?
theorem partA_run {P:Program} {t:TypeId} {cs:List AV} {off:Nat} {r:AV} {ρ:Ren} {xs:Array Value} (h:partA P t cs off=some r) (hx:Rvs ρ cs xs.toList) (w:World) :
 ∃ v,(part t xs off).run P w=.ok v w /\ Rv ρ r v:=by
 unfold partA at h
 split at h
 . cases h
 . rename_i d hd
   split at h
   . rename_i hr
     split at h
     . cases h
     . rename_i n hn
       split at h
       . cases h
       . rename_i l hl
         simp at h;subst h
         obtain ⟨hle,rfl⟩:=cut_some hl
         refine ⟨.agg (xs.extract off (off+n)),by simp [part,run_isAgg hd,hr,run_sizeOf hn],?_⟩
         have e:xs.extract off (off+n)=(List.take n (List.drop off xs.toList)).toArray:=by
          apply Array.ext'
          simp [Array.toList_extract,List.extract_eq_take_drop]
         rw [e]
         exact Rv.agg_mk ((hx.drop off).take n)
   . rename_i hr
     obtain ⟨x,hx1,hx2⟩:=hx.getD h
     exact ⟨x,by simp [part,run_isAgg hd,hr,show xs[off]?=some x by simpa using hx1],hx2⟩
def cmpK:Nat->Value->Value->Option Bool
 | 0,.bool a,.bool b=>some (a == b)
 | 1,.int k a,.int k' b=>match decide (k=k') with
  | true=>some (a == b)
  | false=>none
 | 2,.string a,.string b=>some (a == b)
 | _,_,_=>none
def cmpCells:List Nat->List Value->List Value->Option Bool
 | [],[],[]=>some true
 | k :: ks,x :: xs,y :: ys=>match cmpK k x y with
  | none=>none
  | some b=>match cmpCells ks xs ys with
   | none=>none
   | some c=>some (b && c)
 | _,_,_=>none
theorem cmpCells_append {j k:List Nat}:∀ {a b c d:List Value} {r:Bool},a.length=j.length->c.length=j.length->cmpCells (j ++ k) (a ++ b) (c ++ d)=some r ->
 ∃ p q,cmpCells j a c=some p /\ cmpCells k b d=some q /\ r=(p && q):=by
 induction j with
 | nil=>intro a b c d r hl hl' h;cases a <;> cases c <;> simp_all [cmpCells]
 | cons x t ih =>
  intro a b c d r hl hl' h
  cases a with
  | nil=>simp at hl
  | cons y u =>
   cases c with
   | nil=>simp at hl'
   | cons z v =>
    simp only [List.cons_append,cmpCells] at h
    split at h
    . cases h
    . rename_i e he
      split at h
      . cases h
      . rename_i f hf
        simp at h
        obtain ⟨p,q,hp,hq,rfl⟩:=ih (by simpa using hl) (by simpa using hl') hf
        exact ⟨e && p,q,by simp [cmpCells,he,hp],hq,by rw [<- h,Bool.and_assoc]⟩
theorem cmpCells_length:∀ {ks:List Nat} {xs ys:List Value} {b:Bool},cmpCells ks xs ys=some b->xs.length=ks.length /\ ys.length=ks.length
 | [],[],[],_,_=>⟨rfl,rfl⟩
 | k :: ks,x :: xs,y :: ys,b,h=>by
  simp only [cmpCells] at h
  split at h
  . cases h
  . split at h
    . cases h
    . rename_i hc
      have:=cmpCells_length hc
      simp [this.1,this.2]
 | [],_ :: _,_,_,h=>by simp [cmpCells] at h
 | [],[],_ :: _,_,h=>by simp [cmpCells] at h
 | _ :: _,[],_,_,h=>by simp [cmpCells] at h
 | _ :: _,_ :: _,[],_,h=>by simp [cmpCells] at h
def rowOk (f:TypeId->Option (List Nat)):List Field->Nat->Option (List Nat)
 | [],_=>some []
 | fl :: t,n=>bif (fl.name != "_") && Nat.beq fl.offset n then
  match f fl.type with
  | some []=>none
  | some k=>match rowOk f t (n+k.length) with
   | some l=>some (k ++ l)
   | none=>none
  | none=>none
  else none
def rep (k:List Nat):Nat->List Nat
 | 0=>[]
 | n+1=>k ++ rep k n
theorem rep_length (k:List Nat) (n:Nat):(rep k n).length=n*k.length:=by
 induction n with
 | zero=>simp [rep]
 | succ n ih=>simp [rep,ih,Nat.add_mul,Nat.add_comm]
def plan (P:Program):Nat->TypeId->Option (List Nat)
 | 0,_=>none
 | d+1,t=>match P.underlying t,sz P t with
  | some .bool,some 1=>some [0]
  | some (.int _),some 1=>some [1]
  | some .string,some 1=>some [2]
  | some (.struct fs),some n=>bif P.stoodInHeld t then none else
   match rowOk (plan P d) fs.toList 0 with
   | some m=>bif Nat.beq m.length n then some m else none
   | none=>none
  | some (.array len el),some n=>match plan P d el with
   | some []=>none
   | some k=>bif Nat.beq (len*k.length) n then some (rep k len) else none
   | none=>none
  | _,_=>none
def valOf (P:Program) (t:TypeId) (xs:List Value):Value :=
 match P.underlying t with
 | some d=>match isRow d with
  | true=>.agg xs.toArray
  | false=>xs.getD 0 undef
 | none=>undef
theorem plan_sz {P:Program}:∀ {d:Nat} {t:TypeId} {n:List Nat},plan P d t=some n->sz P t=some n.length
 | 0,_,_,h=>by simp [plan] at h
 | d+1,t,n,h=>by
  simp only [plan] at h
  split at h
  . simp at h;subst h;assumption
  . simp at h;subst h;assumption
  . simp at h;subst h;assumption
  . rename_i fs m hu hs
    cases hst:P.stoodInHeld t <;> simp [hst] at h
    split at h
    . rename_i m' hm'
      cases hb:Nat.beq m'.length m <;> simp [hb] at h
      have:=Nat.eq_of_beq_eq_true hb
      subst h;rw [hs,this]
    . cases h
  . rename_i len el m hu hs
    split at h
    . cases h
    . rename_i k _ hk
      cases hb:Nat.beq (len*k.length) m <;> simp [hb] at h
      have:=Nat.eq_of_beq_eq_true hb
      subst h;rw [hs,rep_length,this]
    . cases h
  . cases h
theorem part_valOf {P:Program} {t:TypeId} {n:List Nat} {off:Nat} {xs:Array Value} {d:Nat} (hp:plan P d t=some n) (hle:off+n.length <= xs.size) (w:World) :
 (part t xs off).run P w=.ok (valOf P t ((xs.toList.drop off).take n.length)) w:=by
 have hs:=plan_sz hp
 have e:xs.extract off (off+n.length)=(List.take n.length (List.drop off xs.toList)).toArray:=by
  apply Array.ext'
  simp [Array.toList_extract,List.extract_eq_take_drop]
 cases d with
 | zero=>simp [plan] at hp
 | succ d =>
  simp only [plan,hs] at hp
  split at hp
  . rename_i hu h1;simp at h1
    have hlt:off < xs.size:=by omega
    simp [part,run_isAgg hu,isRow,valOf,hu,hlt,h1]
  . rename_i k hu h1;simp at h1
    have hlt:off < xs.size:=by omega
    simp [part,run_isAgg hu,isRow,valOf,hu,hlt,h1]
  . rename_i hu h1;simp at h1
    have hlt:off < xs.size:=by omega
    simp [part,run_isAgg hu,isRow,valOf,hu,hlt,h1]
  . rename_i fs m hu h1
    simp [part,run_isAgg hu,isRow,valOf,hu,run_sizeOf hs,e]
  . rename_i len el m hu h1
    simp [part,run_isAgg hu,isRow,valOf,hu,run_sizeOf hs,e]
  . cases hp
theorem drop_split {α:Type} (l:List α) (n k:Nat):l.drop n=(l.drop n).take k ++ l.drop (n+k):=by
 rw [<- List.drop_drop,List.take_append_drop]
theorem fields_run {P:Program} {d e:Nat}
 (ih:∀ (t:TypeId) (k:List Nat) (xs ys:List Value) (b:Bool) (w:World),plan P d t=some k->cmpCells k xs ys=some b ->
  (Op.equalIn e t (valOf P t xs) (valOf P t ys)).run P w=.ok b w) (xs ys:List Value) (w:World) :
 ∀ (fs:List Field) (n:Nat) (b:Bool) (ks:List Nat),rowOk (plan P d) fs n=some ks->cmpCells ks (xs.drop n) (ys.drop n)=some b ->
  (forIn (m:=Sem) fs ((none,()):Option Bool × Unit) fun f __s =>
   if f.name= "_" then pure (ForInStep.yield (none,()))
   else do
    let __do_lift <- part f.type xs.toArray f.offset
    let __do_lift_1 <- part f.type ys.toArray f.offset
    let __do_lift <- Op.equalIn e f.type __do_lift __do_lift_1
    if __do_lift=false then pure (ForInStep.done (some false,())) else pure (ForInStep.yield (none,()))).run P w =
   .ok (if b then (none,()) else (some false,())) w:=by
 intro fs
 induction fs with
 | nil =>
  intro n b ks h hc
  simp [rowOk] at h
  subst h
  have:=cmpCells_length hc
  obtain ⟨h1,h2⟩:=this
  have h1':=List.length_eq_zero_iff.1 h1
  have h2':=List.length_eq_zero_iff.1 h2
  rw [h1',h2'] at hc
  simp [cmpCells] at hc
  subst hc
  simp
 | cons fl t iht =>
  intro n b ks h hc
  simp only [rowOk] at h
  cases hb:((fl.name != "_") && Nat.beq fl.offset n) <;> simp only [hb,cond_true,cond_false] at h
  . cases h
  . simp only [Bool.and_eq_true] at hb
    have hn:fl.name ≠ "_":=by simpa using hb.1
    have ho:fl.offset=n:=Nat.eq_of_beq_eq_true hb.2
    split at h
    . cases h
    . rename_i k hne hk
      have hpos:0 < k.length:=by cases k with | nil=>exact absurd rfl hne | cons=>simp
      split at h
      . rename_i l hl
        simp at h;subst h
        have hlen:=cmpCells_length hc
        simp at hlen
        rw [drop_split xs n k.length,drop_split ys n k.length] at hc
        obtain ⟨p,q,hp,hq,rfl⟩:=cmpCells_append (by simp;omega) (by simp;omega) hc
        have h1:=part_valOf (P:=P) (off:=n) (xs:=xs.toArray) hk (by simp;have:=(cmpCells_length hp).1;simp at this;omega) w
        have h2:=part_valOf (P:=P) (off:=n) (xs:=ys.toArray) hk (by simp;have:=(cmpCells_length hp).2;simp at this;omega) w
        have h3:=ih fl.type k _ _ p w hk hp
        have h4:=iht (n+k.length) q l hl hq
        rw [List.forIn_cons]
        simp only [hn,if_false,Sem.run_bind,ho,h1,Result.andThen_ok]
        simp only [h2,Result.andThen_ok,h3]
        cases p with
        | true=>simp [h4]
        | false=>simp
      . cases h
    . cases h
theorem elems_run {P:Program} {d e:Nat} {el:TypeId} {k:List Nat} (hk:plan P d el=some k) (hpos:0 < k.length)
 (ih:∀ (xs ys:List Value) (b:Bool) (w:World),cmpCells k xs ys=some b ->
  (Op.equalIn e el (valOf P el xs) (valOf P el ys)).run P w=.ok b w) (xs ys:List Value) (w:World) :
 ∀ (c i:Nat) (b:Bool),cmpCells (rep k c) (xs.drop (i*k.length)) (ys.drop (i*k.length))=some b ->
  (forIn (m:=Sem) (List.range' i c) ((none,()):Option Bool × Unit) fun i __s=>do
   let __do_lift <- part el xs.toArray (i*k.length)
   let __do_lift_1 <- part el ys.toArray (i*k.length)
   let __do_lift <- Op.equalIn e el __do_lift __do_lift_1
   if __do_lift=false then pure (ForInStep.done (some false,())) else pure (ForInStep.yield (none,()))).run P w =
   .ok (if b then (none,()) else (some false,())) w:=by
 intro c
 induction c with
 | zero =>
  intro i b hc
  obtain ⟨h1,h2⟩:=cmpCells_length hc
  have h1':=List.length_eq_zero_iff.1 (h1.trans rfl)
  have h2':=List.length_eq_zero_iff.1 (h2.trans rfl)
  rw [h1',h2'] at hc
  simp [rep,cmpCells] at hc
  subst hc
  simp
 | succ c ihc =>
  intro i b hc
  have e2:(i+1)*k.length=i*k.length+k.length:=by rw [Nat.add_mul];omega
  have hlen:=cmpCells_length hc
  simp [rep] at hlen
  rw [drop_split xs (i*k.length) k.length,drop_split ys (i*k.length) k.length,rep] at hc
  obtain ⟨p,q,hp,hq,rfl⟩:=cmpCells_append (by simp;omega) (by simp;omega) hc
  have h1:=part_valOf (P:=P) (off:=i*k.length) (xs:=xs.toArray) hk (by simp;have:=(cmpCells_length hp).1;simp at this;omega) w
  have h2:=part_valOf (P:=P) (off:=i*k.length) (xs:=ys.toArray) hk (by simp;have:=(cmpCells_length hp).2;simp at this;omega) w
  have h3:=ih _ _ p w hp
  have h4:=ihc (i+1) q (by rw [e2];exact hq)
  rw [List.range'_succ,List.forIn_cons]
  simp only [Sem.run_bind,h1,Result.andThen_ok]
  simp only [h2,Result.andThen_ok,h3]
  cases p with
  | true=>simp;exact h4
  | false=>simp
theorem cmpCells_one {k:Nat} {xs ys:List Value} {b:Bool} (h:cmpCells [k] xs ys=some b):∃ x y,xs=[x] /\ ys=[y] /\ cmpK k x y=some b:=by
 obtain ⟨h1,h2⟩:=cmpCells_length h
 obtain ⟨x,rfl⟩:=List.length_eq_one_iff.1 h1
 obtain ⟨y,rfl⟩:=List.length_eq_one_iff.1 h2
 simp only [cmpCells] at h
 split at h
 . cases h
 . rename_i c hc;simp at h;subst h;exact ⟨x,y,rfl,rfl,hc⟩
theorem plan_run {P:Program}:∀ (d:Nat) (e:Nat),d <= e->∀ (t:TypeId) (k:List Nat) (xs ys:List Value) (b:Bool) (w:World),plan P d t=some k ->
 cmpCells k xs ys=some b->(Op.equalIn e t (valOf P t xs) (valOf P t ys)).run P w=.ok b w:=by
 intro d
 induction d with
 | zero=>intro e _ t k xs ys b w h;simp [plan] at h
 | succ d ih =>
  intro e he t k xs ys b w h hc
  obtain ⟨e,rfl⟩:∃ e',e=e'+1:=⟨e - 1,by omega⟩
  have ih':=ih e (by omega)
  simp only [plan] at h
  split at h
  . rename_i hu hs
    simp at h;subst h
    obtain ⟨x,y,rfl,rfl,hxy⟩:=cmpCells_one hc
    cases x <;> cases y <;> simp [cmpK] at hxy
    subst hxy
    simp [valOf,hu,isRow,Op.equalIn,underlying]
  . rename_i kk hu hs
    simp at h;subst h
    obtain ⟨x,y,rfl,rfl,hxy⟩:=cmpCells_one hc
    cases x <;> cases y <;> simp [cmpK] at hxy
    rename_i k1 a k2 c
    by_cases hk:k1=k2
    . subst hk;simp at hxy;subst hxy
      simp [valOf,hu,isRow,Op.equalIn,underlying]
    . simp [hk] at hxy
  . rename_i hu hs
    simp at h;subst h
    obtain ⟨x,y,rfl,rfl,hxy⟩:=cmpCells_one hc
    cases x <;> cases y <;> simp [cmpK] at hxy
    subst hxy
    simp [valOf,hu,isRow,Op.equalIn,underlying]
  . rename_i fs m hu hs
    cases hst:P.stoodInHeld t <;> simp [hst] at h
    split at h
    . rename_i m' hm'
      cases hb:Nat.beq m'.length m <;> simp [hb] at h
      subst h
      have:=fields_run ih' xs ys w fs.toList 0 b _ hm' (by simpa using hc)
      simp only [Array.forIn_toList] at this
      simp only [Op.equalIn,valOf,hu,isRow,Sem.run_bind,run_underlying hu,Result.andThen_ok,run_program,hst]
      simp [this]
      cases b <;> simp
    . cases h
  . rename_i len el m hu hs
    split at h
    . cases h
    . rename_i k' hne hk'
      have hpos:0 < k'.length:=by cases k' with | nil=>exact absurd rfl hne | cons=>simp
      cases hb:Nat.beq (len*k'.length) m <;> simp [hb] at h
      subst h
      have:=elems_run hk' hpos (fun xs ys b w=>ih' el k' xs ys b w hk') xs ys w len 0 b (by simpa using hc)
      simp only [Op.equalIn,valOf,hu,isRow,Sem.run_bind,run_underlying hu,Result.andThen_ok,run_sizeOf (plan_sz hk')]
      simp [this]
      cases b <;> simp
    . cases h
  . cases h
theorem eql_run {P:Program} {d:Nat} {t:TypeId} {k:List Nat} (hd:d <= 10000) (hp:plan P d t=some k) (hr:(match P.underlying t with | some u=>isRow u | none=>false)=true)
 (hg:P.eqGuardType P.depth t=false) {xs ys:Array Value} {b:Bool} (hc:cmpCells k xs.toList ys.toList=some b) (x y:Operand) (w:World) :
 (do eqGuard .eql t x y (.agg xs) (.agg ys);binOp .eql t (.agg xs) (.agg ys):Sem Value).run P w=.ok (.bool b) w /\
 (do eqGuard .neq t x y (.agg xs) (.agg ys);binOp .neq t (.agg xs) (.agg ys):Sem Value).run P w=.ok (.bool !b) w:=by
 have h:=plan_run d 10000 hd t k xs.toList ys.toList b w hp hc
 have hv:∀ zs:Array Value,valOf P t zs.toList=.agg zs:=by
  intro zs
  unfold valOf
  split at hr
  . rename_i u hu;simp [hr]
  . cases hr
 rw [hv,hv] at h
 constructor <;> simp [eqGuard,hg,binOp,Op.equal,Op.maxDepth,h]
structure Env where
 pure:FuncId->Option (List AV->Option (Bool × AV))
 heap:FuncId->Option (List AV->AH->Option (Bool × AV × AH))
 cellEq:TypeId->Option (List Nat)
 wide:Bool
 late:Bool:=false
 strT:List TypeId:=[]
 mrg:List Tmp:=[]
 lay:FuncId->Option (List AV->Nat->Option (Bool × AV × Blk)):=fun _=>none
 tau:Option (List (Option Nat)):=none
 act:FuncId->Option (List AV->AH->Nat->Option (Bool × AV × AH)):=fun _=>none
 fresh:Bool:=false
 ro:List FuncId:=[]
 kk:Nat:=1
def Env.dyn (E:Env):Bool:=Nat.blt 1 E.kk
def Env.wst (E:Env):Bool:=E.wide && Nat.beq E.kk 2
def Env.eqOk (P:Program) (E:Env):Prop:=∀ t k,E.cellEq t=some k ->
 plan P 100 t=some k /\ (match P.underlying t with | some u=>isRow u | none=>false)=true /\ P.eqGuardType P.depth t=false
def aggOf:AV->Option (List AV)
 | .agg cs=>some cs
 | .v (.agg xs)=>some (xs.toList.map .v)
 | _=>none
theorem Rv.aggOf {ρ:Ren} {a:AV} {x:Value} {cs:List AV} (h:Rv ρ a x) (e:aggOf a=some cs):∃ xs:Array Value,x=.agg xs /\ Rvs ρ cs xs.toList:=by
 unfold Rq.aggOf at e
 split at e
 . simp at e;subst e;exact h.agg_iff
 . cases h;simp at e;subst e;exact ⟨_,rfl,Rvs.map_v _⟩
 . cases e
def toU:AV->Option (BitVec 64)
 | .u x=>some x
 | .bit b=>some (bitW b)
 | _=>none
theorem Rv.toU {ρ:Ren} {a:AV} {x:Value} {u:BitVec 64} (h:Rv ρ a x) (e:toU a=some u):x=uval u:=by
 unfold Rq.toU at e
 split at e
 . cases h;simp at e;subst e;rfl
 . cases h;simp at e;subst e;rfl
 . cases e
def choose2 (c:Bool) (a b:AV):Option AV :=
 match toU a,toU b with
 | some x,some y=>some (.u (bif c then x else y))
 | _,_=>match flat a,flat b with
  | some (.bool x),some (.bool y)=>some (.v (.bool (bif c then x else y)))
  | some (.int k x),some (.int k' y)=>match decide (k=k') with
   | true=>some (.v (.int k (bif c then x else y)))
   | false=>none
  | _,_=>none
theorem choose2_spec {ρ:Ren} {c:Bool} {a b r:AV} {x y:Value} (hx:Rv ρ a x) (hy:Rv ρ b y) (h:choose2 c a b=some r):Rv ρ r (if c then x else y):=by
 unfold choose2 at h
 split at h
 . rename_i u v hu hv
   simp at h;subst h
   rw [hx.toU hu,hy.toU hv]
   cases c <;> exact .u _
 . split at h
   . rename_i p q hp hq
     simp at h;subst h
     rw [hx.flat_eq hp,hy.flat_eq hq]
     cases c <;> exact .v _
   . rename_i k p k' q hp hq
     split at h
     . rename_i hk
       have hk:=of_decide_eq_true hk
       subst hk
       simp at h;subst h
       rw [hx.flat_eq hp,hy.flat_eq hq]
       cases c <;> exact .v _
     . cases h
   . cases h
theorem choose2_t {ρ:Ren} {a b r:AV} {x:Value} (hx:Rv ρ a x) (h:choose2 true a b=some r):Rv ρ r x:=by
 unfold choose2 at h
 split at h
 . rename_i u v hu hv
   simp at h;subst h
   rw [hx.toU hu];exact .u _
 . split at h
   . rename_i p q hp hq
     simp at h;subst h
     rw [hx.flat_eq hp];exact .v _
   . rename_i k p k' q hp hq
     split at h
     . simp at h;subst h
       rw [hx.flat_eq hp];exact .v _
     . cases h
   . cases h
theorem choose2_f {ρ:Ren} {a b r:AV} {y:Value} (hy:Rv ρ b y) (h:choose2 false a b=some r):Rv ρ r y:=by
 unfold choose2 at h
 split at h
 . rename_i u v hu hv
   simp at h;subst h
   rw [hy.toU hv];exact .u _
 . split at h
   . rename_i p q hp hq
     simp at h;subst h
     rw [hy.flat_eq hq];exact .v _
   . rename_i k p k' q hp hq
     split at h
     . rename_i hk
       have hk:=of_decide_eq_true hk
       subst hk
       simp at h;subst h
       rw [hy.flat_eq hq];exact .v _
     . cases h
   . cases h
def cmpA (k:Nat) (a b:AV):Option Bool :=
 match k,toU a,toU b with
 | 1,some x,some y=>some (x == y)
 | k,_,_=>match scal a,scal b with
  | some x,some y=>cmpK k x y
  | _,_=>none
def cmpCellsA:List Nat->List AV->List AV->Option Bool
 | [],[],[]=>some true
 | k :: ks,x :: xs,y :: ys=>match cmpA k x y with
  | none=>none
  | some b=>match cmpCellsA ks xs ys with
   | none=>none
   | some c=>some (b && c)
 | _,_,_=>none
theorem uval_eq (x y:BitVec 64):(Int.ofNat x.toNat == Int.ofNat y.toNat)=(x == y):=by
 rw [Bool.eq_iff_iff,beq_iff_eq,beq_iff_eq]
 constructor
 . intro h
   exact BitVec.eq_of_toNat_eq (Int.ofNat.inj h)
 . intro h;rw [h]
theorem cmpA_spec {ρ:Ren} {k:Nat} {a b:AV} {x y:Value} {r:Bool} (hx:Rv ρ a x) (hy:Rv ρ b y) (h:cmpA k a b=some r):cmpK k x y=some r:=by
 unfold cmpA at h
 split at h
 . rename_i u v hu hv
   simp at h;subst h
   rw [hx.toU hu,hy.toU hv]
   simp [uval,cmpK,<- uval_eq]
 . split at h
   . rename_i p q hp hq
     rw [hx.scal_eq hp,hy.scal_eq hq];exact h
   . cases h
theorem cmpCellsA_spec {ρ:Ren}:∀ {ks:List Nat} {as bs:List AV} {xs ys:List Value} {r:Bool},Rvs ρ as xs->Rvs ρ bs ys->cmpCellsA ks as bs=some r->cmpCells ks xs ys=some r
 | [],[],[],xs,ys,r,hx,hy,h=>by rw [hx.unnil,hy.unnil];exact h
 | k :: ks,a :: as,b :: bs,xs,ys,r,hx,hy,h=>by
  obtain ⟨x,xs,rfl,h1,h2⟩:=hx.uncons
  obtain ⟨y,ys,rfl,h3,h4⟩:=hy.uncons
  simp only [cmpCellsA] at h
  split at h
  . cases h
  . rename_i p hp
    split at h
    . cases h
    . rename_i q hq
      simp at h;subst h
      simp [cmpCells,cmpA_spec h1 h3 hp,cmpCellsA_spec h2 h4 hq]
 | [],[],_ :: _,_,_,_,_,_,h=>by simp [cmpCellsA] at h
 | [],_ :: _,_,_,_,_,_,_,h=>by simp [cmpCellsA] at h
 | _ :: _,[],_,_,_,_,_,_,h=>by simp [cmpCellsA] at h
 | _ :: _,_ :: _,[],_,_,_,_,_,h=>by simp [cmpCellsA] at h
def ubin (op:BinOp) (x y:BitVec 64):Option AV :=
 match op with
 | .add=>some (.u (x+y))
 | .sub=>some (.u (x - y))
 | .mul=>some (.u (x*y))
 | .and=>some (.u (x &&& y))
 | .or=>some (.u (x ||| y))
 | .xor=>some (.u (x ^^^ y))
 | .andNot=>some (.u (x &&& ~~~y))
 | .eql=>some (.v (.bool (x == y)))
 | .neq=>some (.v (.bool (x != y)))
 | .lss=>some (.v (.bool (BitVec.ult x y)))
 | .leq=>some (.v (.bool (BitVec.ule x y)))
 | .gtr=>some (.v (.bool (BitVec.ult y x)))
 | .geq=>some (.v (.bool (BitVec.ule y x)))
 | _=>none
theorem wrap_u64 (n:Int):IntKind.u64.wrap n=n % 18446744073709551616:=by
 simp [IntKind.wrap,IntKind.bits,IntKind.signed]
theorem back_u64 (r:BitVec 64):IntKind.u64.wrap r.toNat=(r.toNat:Int):=by
 rw [wrap_u64]
 have:=r.isLt
 omega
theorem ofInt_u64 (x:BitVec 64):BitVec.ofInt 64 (x.toNat:Int)=x:=by
 apply BitVec.eq_of_toNat_eq
 simp
theorem intBits_u64 (op:BinOp) (x y r:BitVec 64) (h:(op=.and /\ r=x &&& y) \/ (op=.or /\ r=x ||| y) \/ (op=.xor /\ r=x ^^^ y) \/ (op=.andNot /\ r=x &&& ~~~y)) :
 Op.intBits op .u64 (x.toNat:Int) (y.toNat:Int)=pure (.int .u64 (r.toNat:Int)):=by
 have hx:BitVec.ofInt IntKind.u64.bits (x.toNat:Int)=x:=ofInt_u64 x
 have hy:BitVec.ofInt IntKind.u64.bits (y.toNat:Int)=y:=ofInt_u64 y
 rcases h with ⟨rfl,rfl⟩ | ⟨rfl,rfl⟩ | ⟨rfl,rfl⟩ | ⟨rfl,rfl⟩ <;>
  (simp only [Op.intBits,hx,hy]
   refine congrArg (fun z=>(pure (Value.int .u64 z):Sem Value)) ?_
   exact back_u64 _)
theorem ubin_run {ρ:Ren} {t:TypeId} {op:BinOp} {x y:BitVec 64} {r:AV} (h:ubin op x y=some r):∃ v,binOp op t (uval x) (uval y)=pure v /\ Rv ρ r v:=by
 have hx:=x.isLt
 have hy:=y.isLt
 cases op <;> simp only [ubin,Option.some.injEq,reduceCtorEq] at h <;> subst h
 . refine ⟨uval (x+y),?_,.u _⟩
   simp only [binOp,uval,Op.intArith]
   simp only [ne_eq,not_true,if_false]
   refine congrArg (fun z=>(pure (Value.int .u64 z):Sem Value)) ?_
   rw [wrap_u64,BitVec.toNat_add];simp
 . refine ⟨uval (x - y),?_,.u _⟩
   simp only [binOp,uval,Op.intArith]
   simp only [ne_eq,not_true,if_false]
   refine congrArg (fun z=>(pure (Value.int .u64 z):Sem Value)) ?_
   rw [wrap_u64,BitVec.toNat_sub];simp;omega
 . refine ⟨uval (x*y),?_,.u _⟩
   simp only [binOp,uval,Op.intArith]
   simp only [ne_eq,not_true,if_false]
   refine congrArg (fun z=>(pure (Value.int .u64 z):Sem Value)) ?_
   rw [wrap_u64,BitVec.toNat_mul];simp
 . refine ⟨uval (x &&& y),?_,.u _⟩
   simp only [binOp,uval,ne_eq,not_true,if_false]
   exact intBits_u64 .and x y _ (.inl ⟨rfl,rfl⟩)
 . refine ⟨uval (x ||| y),?_,.u _⟩
   simp only [binOp,uval,ne_eq,not_true,if_false]
   exact intBits_u64 .or x y _ (.inr (.inl ⟨rfl,rfl⟩))
 . refine ⟨uval (x ^^^ y),?_,.u _⟩
   simp only [binOp,uval,ne_eq,not_true,if_false]
   exact intBits_u64 .xor x y _ (.inr (.inr (.inl ⟨rfl,rfl⟩)))
 . refine ⟨uval (x &&& ~~~y),?_,.u _⟩
   simp only [binOp,uval,ne_eq,not_true,if_false]
   exact intBits_u64 .andNot x y _ (.inr (.inr (.inr ⟨rfl,rfl⟩)))
 all_goals
  refine ⟨_,?_,.v _⟩
  simp only [binOp,uval,ne_eq,not_true,if_false,Op.intCmp]
  refine congrArg (fun z=>(pure (Value.bool z):Sem Value)) ?_
  first
   | exact uval_eq x y
   | (show (!(Int.ofNat x.toNat == Int.ofNat y.toNat))=!(x == y);rw [uval_eq])
   | (simp [BitVec.ult,BitVec.ule])
def toShift:AV->Option Int
 | .u x=>some (Int.ofNat x.toNat)
 | .bit b=>some (bif b then 1 else 0)
 | .v (.int _ n)=>some n
 | _=>none
theorem Rv.toShift {ρ:Ren} {a:AV} {x:Value} {n:Int} (h:Rv ρ a x) (e:toShift a=some n):∃ k,x=.int k n:=by
 unfold Rq.toShift at e
 split at e
 . cases h;simp at e;subst e;exact ⟨_,rfl⟩
 . rename_i b;cases h;simp at e;subst e;exact ⟨.u64,by cases b <;> rfl⟩
 . cases h;simp at e;subst e;exact ⟨_,rfl⟩
 . cases e
def ushift (op:BinOp) (x:BitVec 64) (n:Nat):Option AV :=
 match op with
 | .shl=>some (.u (x <<< Nat.min n 64))
 | .shr=>some (.u (x >>> Nat.min n 64))
 | _=>none
theorem ushift_run {ρ:Ren} {t:TypeId} {op:BinOp} {x:BitVec 64} {n:Int} {r:AV} {k:IntKind} (hn:0 <= n) (h:ushift op x n.toNat=some r):∃ v,binOp op t (uval x) (.int k n)=pure v /\ Rv ρ r v:=by
 obtain ⟨n,rfl⟩:=Int.eq_ofNat_of_zero_le hn
 simp only [Int.toNat_natCast] at h
 have hx:=x.isLt
 cases op <;> simp only [ushift,Option.some.injEq,reduceCtorEq] at h <;> subst h
 . refine ⟨uval (x <<< Nat.min n 64),?_,.u _⟩
   simp only [binOp,uval,Op.shift]
   rw [if_neg (by omega)]
   refine congrArg (fun z=>(pure (Value.int .u64 z):Sem Value)) ?_
   rw [wrap_u64]
   simp [Nat.shiftLeft_eq,IntKind.bits]
 . refine ⟨uval (x >>> Nat.min n 64),?_,.u _⟩
   simp only [binOp,uval,Op.shift]
   rw [if_neg (by omega)]
   refine congrArg (fun z=>(pure (Value.int .u64 z):Sem Value)) ?_
   have e:∀ (a k:Nat),Int.fdiv (a:Int) (2 ^ k)=((a / 2 ^ k:Nat):Int):=by
    intro a k
    have h2:(2:Int) ^ k=((2 ^ k:Nat):Int):=by simp
    rw [h2,Int.fdiv_eq_ediv_of_nonneg _ (Int.natCast_nonneg _)]
    simp
   show Int.fdiv (x.toNat:Int) (2 ^ Nat.min (n:Int).toNat 64)=_
   rw [e]
   simp [Nat.shiftRight_eq_div_pow]
def udivA (op:BinOp) (u v:BitVec 64):Option AV :=
 match op with
 | .quo=>some (.u (u / v))
 | .rem=>some (.u (u % v))
 | _=>none
theorem udivA_run {ρ:Ren} {t:TypeId} {op:BinOp} {x y:BitVec 64} {r:AV} (hy:y ≠ 0#64) (h:udivA op x y=some r):∃ v,binOp op t (uval x) (uval y)=pure v /\ Rv ρ r v:=by
 have hx:=x.isLt
 have hy0:y.toNat ≠ 0:=fun e=>hy (BitVec.eq_of_toNat_eq e)
 have hi:¬ (Int.ofNat y.toNat=0):=by simpa using hy0
 cases op <;> simp only [udivA,Option.some.injEq,reduceCtorEq] at h <;> subst h
 . refine ⟨uval (x / y),?_,.u _⟩
   simp only [binOp,uval,Op.intDiv]
   simp only [ne_eq,not_true,if_false]
   rw [if_neg hi]
   refine congrArg (fun z=>(pure (Value.int .u64 z):Sem Value)) ?_
   rw [wrap_u64,BitVec.toNat_udiv]
   have hd:x.toNat / y.toNat <= x.toNat:=Nat.div_le_self _ _
   rw [show (Int.ofNat x.toNat).tdiv (Int.ofNat y.toNat)=((x.toNat / y.toNat:Nat):Int) from rfl]
   exact Int.emod_eq_of_lt (Int.natCast_nonneg _) (by
    have:x.toNat / y.toNat < 18446744073709551616:=Nat.lt_of_le_of_lt hd hx
    exact Int.ofNat_lt.2 this)
 . refine ⟨uval (x % y),?_,.u _⟩
   simp only [binOp,uval,Op.intDiv]
   simp only [ne_eq,not_true,if_false]
   rw [if_neg hi]
   refine congrArg (fun z=>(pure (Value.int .u64 z):Sem Value)) ?_
   rw [BitVec.toNat_umod]
   rfl
def isShift:BinOp->Bool
 | .shl=>true
 | .shr=>true
 | _=>false
def ubinB (op:BinOp) (a b:AV) (u v:BitVec 64):Option AV :=
 match a,b,op with
 | .bit p,.bit q,.eql=>some (.v (.bool (p == q)))
 | .bit p,.bit q,.neq=>some (.v (.bool (p != q)))
 | _,_,_=>ubin op u v
def binPlain (P:Program) (E:Env) (op:BinOp) (t:TypeId) (x y:Operand) (a b:AV):Option AV :=
 match isShift op with
 | true=>match flat a,flat b with
  | some p,some q=>match pureRun P (do eqGuard op t x y p q;binOp op t p q) with
   | some r=>some (.v r)
   | none=>none
  | _,_=>none
 | false=>match toU a,toU b with
  | some u,some v=>ubinB op a b u v
  | _,_=>match aggOf a,aggOf b with
   | some xs,some ys=>match E.cellEq t with
    | some k=>match cmpCellsA k xs ys with
     | some r=>match op with
      | .eql=>some (.v (.bool r))
      | .neq=>some (.v (.bool !r))
      | _=>none
     | none=>none
    | none=>none
   | _,_=>match flat a,flat b with
    | some p,some q=>match pureRun P (do eqGuard op t x y p q;binOp op t p q) with
     | some r=>some (.v r)
     | none=>none
    | _,_=>none
theorem eqGuard_int (P:Program) (op:BinOp) (t:TypeId) (x y:Operand) (k k':IntKind) (m n:Int) (w:World):(eqGuard op t x y (.int k m) (.int k' n)).run P w=.ok () w:=by
 cases op <;> simp [eqGuard]
theorem ubin_bits (p q:Bool):ubin .eql (bitW p) (bitW q)=some (.v (.bool (p == q))) /\ ubin .neq (bitW p) (bitW q)=some (.v (.bool (p != q))):=by
 cases p <;> cases q <;> exact ⟨rfl,rfl⟩
theorem binPlain_run {P:Program} {E:Env} (hE:E.eqOk P) {ρ:Ren} {op:BinOp} {t:TypeId} {x y:Operand} {a b r:AV} {p q:Value} (hp:Rv ρ a p) (hq:Rv ρ b q) (h:binPlain P E op t x y a b=some r) (w:World) :
 ∃ v,(do eqGuard op t x y p q;binOp op t p q:Sem Value).run P w=.ok v w /\ Rv ρ r v:=by
 have plain:(match flat a,flat b with
  | some p,some q=>match pureRun P (do eqGuard op t x y p q;binOp op t p q) with
   | some r=>some (AV.v r)
   | none=>none
  | _,_=>none)=some r->∃ v,(do eqGuard op t x y p q;binOp op t p q:Sem Value).run P w=.ok v w /\ Rv ρ r v:=by
  intro h
  split at h
  . rename_i p' q' h1 h2
    split at h
    . rename_i r' hr
      simp at h;subst h
      rw [hp.flat_eq h1,hq.flat_eq h2]
      exact ⟨r',pureRun_run hr w,.v _⟩
    . cases h
  . cases h
 unfold binPlain at h
 split at h
 . exact plain h
 . split at h
   . rename_i u v hu hv
     have gen:ubin op u v=some r->∃ v,(do eqGuard op t x y p q;binOp op t p q:Sem Value).run P w=.ok v w /\ Rv ρ r v:=by
      intro h
      rw [hp.toU hu,hq.toU hv]
      obtain ⟨z,h1,h2⟩:=ubin_run (t:=t) (ρ:=ρ) h
      exact ⟨z,by simp only [Sem.run_bind,uval,eqGuard_int,Result.andThen_ok];rw [show binOp op t (.int .u64 (Int.ofNat u.toNat)) (.int .u64 (Int.ofNat v.toNat))=pure z from h1];rfl,h2⟩
     unfold ubinB at h
     split at h
     . simp [Rq.toU] at hu hv;subst hu;subst hv
       simp at h;subst h
       exact gen (ubin_bits _ _).1
     . simp [Rq.toU] at hu hv;subst hu;subst hv
       simp at h;subst h
       exact gen (ubin_bits _ _).2
     . exact gen h
   . split at h
     . rename_i xs ys hx hy
       obtain ⟨xs',rfl,hxs⟩:=hp.aggOf hx
       obtain ⟨ys',rfl,hys⟩:=hq.aggOf hy
       split at h
       . rename_i k hk
         split at h
         . rename_i rr hr
           obtain ⟨h1,h2,h3⟩:=hE t k hk
           have:=eql_run (by omega) h1 h2 h3 (cmpCellsA_spec hxs hys hr) x y w
           split at h
           . simp at h;subst h;exact ⟨_,this.1,.v _⟩
           . simp at h;subst h;exact ⟨_,this.2,.v _⟩
           . cases h
         . cases h
       . cases h
     . exact plain h
def binF (P:Program) (E:Env) (op:BinOp) (t:TypeId) (x y:Operand) (a b:AV):Option (Bool × AV) :=
 match isShift op,toU a,toShift b with
 | true,some u,some n=>match ushift op u n.toNat with
  | some r=>some (decide (0 <= n),r)
  | none=>none
 | _,_,_=>match binPlain P E op t x y a b with
  | some r=>some (true,r)
  | none=>match toU a,toU b with
   | some u,some v=>match udivA op u v with
    | some r=>some (!(v == 0#64),r)
    | none=>none
   | _,_=>none
def bound (ev:Operand->AV):Option Operand->Option (Option Int)
 | none=>some none
 | some o=>match flat (ev o) with
  | some (.int _ n)=>some (some n)
  | _=>none
def fillA (place:Nat->Option (Nat × Nat)):List (Nat × AV)->List AV->Option (List AV)
 | [],cs=>some cs
 | (i,x) :: t,cs=>match place i with
  | none=>none
  | some (off,n)=>match cellsOf x with
   | none=>none
   | some l=>bif Nat.beq l.length n && Nat.ble (off+n) cs.length then fillA place t (setAt cs off l) else none
def canon:Value->AV
 | .bool b=>.lit b
 | .int .u64 n=>match decide (0 <= n /\ n < 18446744073709551616) with
  | true=>.u (BitVec.ofInt 64 n)
  | false=>.v (.int .u64 n)
 | x=>.v x
theorem Rv.canon {ρ:Ren} (x:Value):Rv ρ (Rq.canon x) x:=by
 unfold Rq.canon
 split
 . exact .lit _
 . rename_i n
   split
   . rename_i h
     have h:=of_decide_eq_true h
     have:uval (BitVec.ofInt 64 n)=.int .u64 n:=by
      simp [uval,BitVec.toNat_ofInt];omega
     rw [<- this];exact .u _
   . exact .v _
 . exact .v _
def canons:List Value->List AV
 | []=>[]
 | x :: t=>Rq.canon x :: canons t
theorem Rvs.canons {ρ:Ren}:∀ (l:List Value),Rvs ρ (Rq.canons l) l
 | []=>.nil
 | x :: t=>.cons (.canon x) (Rvs.canons t)
def zeroOf (P:Program) (t:TypeId):Option (List AV) :=
 match P.info? t with
 | some i=>match i.zero with
  | some z=>some (canons z.cells.toList)
  | none=>none
 | none=>none
def placesOf (P:Program):List Field->Option (List (Nat × Nat))
 | []=>some []
 | f :: t=>match sz P f.type with
  | none=>none
  | some n=>match placesOf P t with
   | none=>none
   | some l=>some ((f.offset,n) :: l)
def evs (ev:Operand->AV):List (Nat × Operand)->List (Nat × AV)
 | []=>[]
 | (i,x) :: t=>(i,ev x) :: evs ev t
def buildA (P:Program) (ev:Operand->AV) (t:TypeId) (parts:List (Nat × Operand)):Option AV :=
 match zeroOf P t with
 | none=>none
 | some z=>match P.underlying t with
  | some (.struct fs)=>match placesOf P fs.toList with
   | none=>none
   | some ps=>match fillA (fun i=>ps[i]?) (evs ev parts) z with
    | some l=>some (.agg l)
    | none=>none
  | some (.array _ el)=>match sz P el with
   | none=>none
   | some n=>match fillA (fun i=>some (i*n,n)) (evs ev parts) z with
    | some l=>some (.agg l)
    | none=>none
  | _=>none
def maps (ev:Operand->AV):List Operand->List AV
 | []=>[]
 | x :: t=>ev x :: maps ev t
theorem evs_eq (ev:Operand->AV) (l:List (Nat × Operand)):evs ev l=l.map fun p=>(p.1,ev p.2):=by
 induction l with
 | nil=>rfl
 | cons x t ih=>obtain ⟨i,x⟩:=x;simp [evs,ih]
def strAt (s:ByteArray) (i:Nat):Nat:=(s.data.toList.getD i 0).toNat
theorem strAt_run {s:ByteArray} {i:Nat} (h:i < s.data.toList.length):∃ b,s[i]?=some b /\ b.toNat=strAt s i:=by
 have h':i < s.size:=by rw [Array.length_toList] at h;exact h
 refine ⟨s[i],by rw [getElem?_pos],?_⟩
 unfold strAt
 rw [List.getD_eq_getElem?_getD,List.getElem?_eq_getElem h]
 rfl
def opPure (P:Program) (E:Env) (ev:Operand->AV) (o:Op):Option (Bool × AV) :=
 match o with
 | .move x=>some (true,ev x)
 | .assign x=>some (true,ev x)
 | .pick c a b=>match ev c with
  | .lit true=>some (true,ev a)
  | .lit false=>some (true,ev b)
  | .v (.bool c')=>match choose2 c' (ev a) (ev b) with
   | some z=>some (true,z)
   | none=>match c' with
    | true=>some (true,ev a)
    | false=>some (true,ev b)
  | _=>none
 | .nilCheck x=>match ev x with
  | .ptr id off=>some (true,.ptr id off)
  | .v (.pointer (some a))=>some (true,.v (.pointer (some a)))
  | .fn (.func f) as bs=>some (true,.fn (.func f) as bs)
  | _=>none
 | .binOp op t x y _=>match ev x,ev y with
  | .ptr _ _,.v (.pointer none)=>match P.underlying t,op with
   | some (.pointer _),.eql=>some (true,.lit false)
   | some (.pointer _),.neq=>some (true,.lit true)
   | _,_=>none
  | .slc _ _ _ _,.v (.slice none _ _)=>match P.underlying t,op with
   | some (.slice _),.eql=>some (true,.lit false)
   | some (.slice _),.neq=>some (true,.lit true)
   | _,_=>none
  | .own _ _ _ _,.v (.slice none _ _)=>match P.underlying t,op with
   | some (.slice _),.eql=>some (true,.lit false)
   | some (.slice _),.neq=>some (true,.lit true)
   | _,_=>none
  | a,b=>binF P E op t x y a b
 | .unOp op _ x=>match toU (ev x) with
  | some u=>match op with
   | .xor=>some (true,.u (~~~u))
   | .neg=>some (true,.u (0#64 - u))
   | _=>none
  | none=>match flat (ev x) with
   | some a=>match pureRun P (Op.unary op a) with
    | some r=>some (true,.v r)
    | none=>none
   | none=>none
 | .convert s d x=>match toU (ev x) with
  | some u=>match P.underlying s,P.underlying d with
   | some (.int _),some (.int .u64)=>some (true,.u u)
   | some (.int _),some (.int k)=>some (true,.v (.int k (k.wrap (Int.ofNat u.toNat))))
   | _,_=>none
  | none=>match flat (ev x) with
   | some a=>match P.underlying s,P.underlying d,a with
    | some (.int _),some (.int .u64),.int _ n=>some (true,.u (BitVec.ofInt 64 n))
    | _,_,_=>match pureRun P (convert s d a) with
     | some r=>some (true,.v r)
     | none=>none
   | none=>none
 | .makeInterface t x=>match P.underlying t with
  | some (.interface _)=>none
  | some _=>some (true,.ifc t (ev x))
  | none=>none
 | .makeFunc f as bs=>some (true,.fn f (maps ev as.toList) (maps ev bs.toList))
 | .sliceToArrayPointer t x=>match P.underlying t,ev x with
  | some (.array n _),.slc id off len _=>some (decide (n <= len),.ptr id off)
  | _,_=>none
 | .fieldAddr s x f=>match P.underlying s,ev x with
  | some (.struct fs),.ptr id off=>match fs.toList[f]? with
   | some fl=>match sz P fl.type with
    | some (_+1)=>some (true,.ptr id (off+fl.offset))
    | _=>none
   | none=>none
  | _,_=>none
 | .indexAddr t x ix=>match flat (ev ix) with
  | some (.int _ i)=>match P.underlying t,ev x with
   | some (.array len el),.ptr id off=>match sz P el with
    | some n=>some (decide (0 <= i /\ i < (len:Int)),.ptr id (off+i.toNat*n))
    | none=>none
   | some (.array len el),.v (.pointer (some ⟨g,off,none⟩))=>match sz P el with
    | some n=>some (decide (0 <= i /\ i < (len:Int)),.v (.pointer (some ⟨g,off+i.toNat*n,none⟩)))
    | none=>none
   | some (.slice el),.slc id off len _=>match sz P el with
    | some n=>some (decide (0 <= i /\ i < (len:Int)),.ptr id (off+i.toNat*n))
    | none=>none
   | some (.slice el),.own id es k len=>match sz P el with
    | some n=>some (decide (0 <= i /\ i < (len:Int)),.ptr id (k*es+i.toNat*n))
    | none=>none
   | _,_=>none
  | _=>none
 | .field t x f=>match P.underlying t,aggOf (ev x) with
  | some (.struct fs),some cs=>match fs.toList[f]? with
   | some fl=>match partA P fl.type cs fl.offset with
    | some r=>some (true,r)
    | none=>none
   | none=>none
  | _,_=>none
 | .index t x ix=>match flat (ev ix) with
  | some (.int _ i)=>match P.underlying t with
   | some (.array len el)=>match aggOf (ev x) with
    | some cs=>match sz P el with
     | some n=>match partA P el cs (i.toNat*n) with
      | some r=>some (decide (0 <= i /\ i < (len:Int)),r)
      | none=>none
     | none=>none
    | none=>none
   | some .string=>match ev x with
    | .v (.string s)=>some (decide (0 <= i /\ i < (s.data.toList.length:Int)),.v (.int .u8 ((strAt s i.toNat:Nat):Int)))
    | _=>none
   | _=>none
  | _=>none
 | .extract x i=>match ev x with
  | .tup cs=>match cs[i]? with
   | some r=>some (true,r)
   | none=>none
  | .v (.tuple vs)=>match vs.toList[i]? with
   | some r=>some (true,.v r)
   | none=>none
  | _=>none
 | .build t parts=>match buildA P ev t parts.toList with
  | some r=>some (true,r)
  | none=>none
 | .slice t x lo hi none=>match P.underlying t,ev x,bound ev lo,bound ev hi with
  | some (.array len el),.ptr id off,some lo,some hi=>match sz P el with
   | some n =>
    let h:=hi.getD len
    let l:=lo.getD 0
    some (decide (0 <= h /\ h <= (len:Int)) && decide (0 <= l /\ l <= h),
     .slc id (bif Nat.beq len l.toNat then off else off+l.toNat*n) (h.toNat - l.toNat) (len - l.toNat))
   | none=>none
  | some (.slice el),.slc id off len cap,some lo,some hi=>match sz P el with
   | some n =>
    let h:=hi.getD len
    let l:=lo.getD 0
    some (decide (0 <= h /\ h <= (cap:Int)) && decide (0 <= l /\ l <= h),
     .slc id (bif Nat.beq cap l.toNat then off else off+l.toNat*n) (h.toNat - l.toNat) (cap - l.toNat))
   | none=>none
  | some (.slice el),.own id es k len,some lo,some hi=>match sz P el with
   | some n =>
    let h:=hi.getD len
    let l:=lo.getD 0
    some ((decide (0 <= h /\ h <= (len:Int)) && decide (0 <= l /\ l <= h)) && (Nat.beq n es),.own id es (k+l.toNat) (h.toNat - l.toNat))
   | none=>none
  | some (.slice el),.v (.slice none len cap),some lo,some hi=>match sz P el with
   | some _ =>
    let h:=hi.getD len
    let l:=lo.getD 0
    some (decide (0 <= h /\ h <= (cap:Int)) && decide (0 <= l /\ l <= h),.v (.slice none (h.toNat - l.toNat) (cap - l.toNat)))
   | none=>none
  | _,_,_,_=>none
 | .slice t x lo (some hi) (some mx)=>match P.underlying t,ev x,bound ev lo,flat (ev hi),flat (ev mx) with
  | some (.slice el),.slc id off _ cap,some lo,some (.int _ h),some (.int _ m)=>match sz P el with
   | some n =>
    let l:=lo.getD 0
    some (decide (0 <= m /\ m <= (cap:Int)) && (decide (0 <= h /\ h <= m) && decide (0 <= l /\ l <= h)),
     .slc id (bif Nat.beq m.toNat l.toNat then off else off+l.toNat*n) (h.toNat - l.toNat) (m.toNat - l.toNat))
   | none=>none
  | some (.slice el),.own id es k len,some lo,some (.int _ h),some (.int _ m)=>match sz P el with
   | some n =>
    let l:=lo.getD 0
    some ((decide (0 <= m /\ m <= (len:Int)) && (decide (0 <= h /\ h <= m) && decide (0 <= l /\ l <= h))) && decide (0 < len \/ k=0),
     .slc id (bif Nat.beq m.toNat l.toNat then k*es else k*es+l.toNat*n) (h.toNat - l.toNat) (m.toNat - l.toNat))
   | none=>none
  | some (.slice el),.v (.slice none _ cap),some lo,some (.int _ h),some (.int _ m)=>match sz P el with
   | some _ =>
    let l:=lo.getD 0
    some (decide (0 <= m /\ m <= (cap:Int)) && (decide (0 <= h /\ h <= m) && decide (0 <= l /\ l <= h)),.v (.slice none (h.toNat - l.toNat) (m.toNat - l.toNat)))
   | none=>none
  | _,_,_,_,_=>none
 | _=>none
def EvOk (ρ:Ren) (ev:Operand->AV) (va:Operand->Value):Prop:=∀ x,Rv ρ (ev x) (va x)
theorem Rvs.maps {ρ:Ren} {ev:Operand->AV} {va:Operand->Value} (h:EvOk ρ ev va) (l:List Operand):Rvs ρ (Rq.maps ev l) (l.map va):=by
 induction l with
 | nil=>exact .nil
 | cons x t ih=>exact .cons (h x) ih
theorem zeroOf_run {P:Program} {t:TypeId} {z:List AV} (h:zeroOf P t=some z) :
 ∃ v,(∀ w,(zeroValue t).run P w=.ok v w) /\ z=canons v.cells.toList:=by
 unfold zeroOf at h
 split at h
 . rename_i i hi
   split at h
   . rename_i v hv
     simp at h
     exact ⟨v,fun w=>by simp [zeroValue,typeInfo,hi,hv],h.symm⟩
   . cases h
 . cases h
theorem setAt_foldl (l:List Value):∀ (cs:Array Value) (off j:Nat),
 (setAt cs.toList (off+j) l).toArray=(l.zipIdx j).foldl (fun cs (x:Value × Nat)=>cs.setIfInBounds (off+x.2) x.1) cs:=by
 induction l with
 | nil=>intro cs off j;simp [setAt]
 | cons x t ih =>
  intro cs off j
  simp only [setAt,List.zipIdx_cons,List.foldl_cons]
  rw [<- ih (cs.setIfInBounds (off+j) x) off (j+1)]
  simp [Nat.add_assoc]
theorem fillA_run {ρ:Ren} (place:Nat->Option (Nat × Nat)):∀ (parts:List (Nat × AV)) (vs:List (Nat × Value)) (cs:List AV) (xs:List Value) (r:List AV),
 parts.length=vs.length->(∀ (i:Nat) (a:Nat × AV) (x:Nat × Value),parts[i]?=some a->vs[i]?=some x->a.1=x.1 /\ Rv ρ a.2 x.2)->Rvs ρ cs xs->fillA place parts cs=some r ->
 ∃ ys:List Value,Instr.fill place xs.toArray vs=some ys.toArray /\ Rvs ρ r ys:=by
 intro parts
 induction parts with
 | nil =>
  intro vs cs xs r hl _ hc h
  cases vs with
  | nil=>simp [fillA] at h;subst h;exact ⟨xs,rfl,hc⟩
  | cons=>simp at hl
 | cons p t ih =>
  intro vs cs xs r hl hv hc h
  cases vs with
  | nil=>simp at hl
  | cons q u =>
   obtain ⟨i,a⟩:=p
   obtain ⟨j,x⟩:=q
   have h0:=hv 0 _ _ rfl rfl
   simp at h0
   obtain ⟨rfl,hax⟩:=h0
   simp only [fillA] at h
   split at h
   . cases h
   . rename_i off n hp
     split at h
     . cases h
     . rename_i l hl'
       have hcells:=hax.cells hl'
       cases hb:(Nat.beq l.length n && Nat.ble (off+n) cs.length) <;> simp only [hb,cond_true,cond_false] at h
       . cases h
       . simp only [Bool.and_eq_true] at hb
         have e1:=Nat.eq_of_beq_eq_true hb.1
         have e2:=Nat.le_of_ble_eq_true hb.2
         have hlen:x.cells.size=n:=by rw [<- e1,hcells.1];simp
         have hsz:xs.length=cs.length:=hc.1.symm
         obtain ⟨ys,h1,h2⟩:=ih u (setAt cs off l) (setAt xs off x.cells.toList) r (by simpa using hl)
          (fun i a x ha hx=>hv (i+1) a x (by simpa using ha) (by simpa using hx)) (hcells.setAt off hc) h
         refine ⟨ys,?_,h2⟩
         simp only [Instr.fill,hp]
         rw [if_neg (by simp [hlen];omega)]
         have:=setAt_foldl x.cells.toList xs.toArray off 0
         simp only [Nat.add_zero] at this
         rw [<- h1,this]
         congr 1
         rw [<- Array.foldl_toList]
         simp
theorem binF_run {P:Program} {E:Env} (hE:E.eqOk P) {ρ:Ren} {op:BinOp} {t:TypeId} {x y:Operand} {a b r:AV} {p q:Value} (hp:Rv ρ a p) (hq:Rv ρ b q) (h:binF P E op t x y a b=some (true,r)) (w:World) :
 ∃ v,(do eqGuard op t x y p q;binOp op t p q:Sem Value).run P w=.ok v w /\ Rv ρ r v:=by
 unfold binF at h
 split at h
 . rename_i u n _ hu hn
   split at h
   . rename_i r' hr
     simp only [Option.some.injEq,Prod.mk.injEq,decide_eq_true_eq] at h
     obtain ⟨hn0,rfl⟩:=h
     obtain ⟨k,rfl⟩:=hq.toShift hn
     rw [hp.toU hu]
     obtain ⟨v,h1,h2⟩:=ushift_run (t:=t) (k:=k) (ρ:=ρ) hn0 hr
     exact ⟨v,by simp only [Sem.run_bind,uval,eqGuard_int,Result.andThen_ok];rw [show binOp op t (.int .u64 (Int.ofNat u.toNat)) (.int k n)=pure v from h1];rfl,h2⟩
   . cases h
 . split at h
   . rename_i r' hr
     simp at h;subst h
     exact binPlain_run hE hp hq hr w
   . split at h
     . rename_i u v hu hv
       split at h
       . rename_i r' hr
         simp only [Option.some.injEq,Prod.mk.injEq,Bool.not_eq_true',beq_eq_false_iff_ne] at h
         obtain ⟨hv0,rfl⟩:=h
         rw [hp.toU hu,hq.toU hv]
         obtain ⟨z,h1,h2⟩:=udivA_run (t:=t) (ρ:=ρ) hv0 hr
         exact ⟨z,by simp only [Sem.run_bind,uval,eqGuard_int,Result.andThen_ok];rw [show binOp op t (.int .u64 (Int.ofNat u.toNat)) (.int .u64 (Int.ofNat v.toNat))=pure z from h1];rfl,h2⟩
       . cases h
     . cases h
end Go.Rq
