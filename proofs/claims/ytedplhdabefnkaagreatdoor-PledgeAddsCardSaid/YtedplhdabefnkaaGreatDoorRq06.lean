import Derived.Test.YtedplhdabefnkaaGreatDoorRq05
import Derived.Test.YtedplhdabefnkaaGreatDoorRq04
import Derived.RangeFuncLeaves
namespace Go.Rq
open Go
noncomputable def wrapF (k:IntKind) (z:Int):Int:=match k with
 | .u8=>Int.emod z (.ofNat 256)
 | .u16=>Int.emod z (.ofNat 65536)
 | .u32=>Int.emod z (.ofNat 4294967296)
 | .u64=>Int.emod z (.ofNat 18446744073709551616)
 | .i64=>match z with
  | .ofNat n=>cond (Nat.blt n 9223372036854775808) (.ofNat n) (IntKind.i64.wrap (.ofNat n))
  | .negSucc n=>cond (Nat.blt n 9223372036854775808) (.negSucc n) (IntKind.i64.wrap (.negSucc n))
 | k=>k.wrap z
theorem blt_lt {n m:Nat} (h:Nat.blt n m=true):n < m:=Nat.le_of_ble_eq_true h
theorem wrap_idF {n:Int} (h0:-9223372036854775808 <= n) (h1:n < 9223372036854775808):IntKind.i64.wrap n=n:=by
 simp [IntKind.wrap,IntKind.bits,IntKind.signed]
 split <;> omega
theorem wrapF_eq (k:IntKind) (z:Int):wrapF k z=k.wrap z:=by
 cases k with
 | u8=>simp [wrapF,IntKind.wrap,IntKind.bits,IntKind.signed];rfl
 | u16=>simp [wrapF,IntKind.wrap,IntKind.bits,IntKind.signed];rfl
 | u32=>simp [wrapF,IntKind.wrap,IntKind.bits,IntKind.signed];rfl
 | u64=>simp [wrapF,IntKind.wrap,IntKind.bits,IntKind.signed];rfl
 | i64 =>
  simp only [wrapF]
  split
  . rename_i n
    cases hb:Nat.blt n 9223372036854775808 with
    | false=>rw [cond_false]
    | true =>
     have:=blt_lt hb
     rw [cond_true]
     exact (wrap_idF (n:=(n:Int)) (by omega) (by omega)).symm
  . rename_i n
    cases hb:Nat.blt n 9223372036854775808 with
    | false=>rw [cond_false]
    | true =>
     have:=blt_lt hb
     rw [cond_true]
     exact (wrap_idF (by omega) (by omega)).symm
 | _=>rfl
def iEq:Int->Int->Bool
 | .ofNat a,.ofNat b=>Nat.beq a b
 | .negSucc a,.negSucc b=>Nat.beq a b
 | _,_=>false
def iLt:Int->Int->Bool
 | .ofNat a,.ofNat b=>Nat.blt a b
 | .negSucc _,.ofNat _=>true
 | .ofNat _,.negSucc _=>false
 | .negSucc a,.negSucc b=>Nat.blt b a
theorem iEq_eq (m n:Int):iEq m n=(m == n):=by
 cases hb:iEq m n with
 | true =>
  unfold iEq at hb
  split at hb
  . rw [(beq_iff _ _).1 hb];simp
  . rw [(beq_iff _ _).1 hb];simp
  . cases hb
 | false =>
  unfold iEq at hb
  split at hb
  . have:=beq_off.1 hb
    symm;simp;omega
  . have:=beq_off.1 hb
    symm;simp;omega
  . symm
    cases m with
    | ofNat a=>cases n with
     | ofNat b=>rename_i h1 h2;exact absurd rfl (h1 a b rfl)
     | negSucc b=>rfl
    | negSucc a=>cases n with
     | ofNat b=>rfl
     | negSucc b=>rename_i h1 h2;exact absurd rfl (h2 a b rfl)
theorem blt_dec (a b:Nat):Nat.blt a b=decide (a < b):=by
 cases hb:Nat.blt a b with
 | true=>simp [blt_lt hb]
 | false =>
  symm;simp
  rcases Nat.lt_or_ge a b with h | h
  . rw [show Nat.blt a b=true from Nat.ble_eq_true_of_le h] at hb;cases hb
  . exact h
theorem iLt_eq (m n:Int):iLt m n=decide (m < n):=by
 cases m with
 | ofNat a=>cases n with
  | ofNat b=>simp only [iLt,blt_dec];congr 1;apply propext;exact Int.ofNat_lt.symm
  | negSucc b=>simp only [iLt];symm;simp;omega
 | negSucc a=>cases n with
  | ofNat b=>simp only [iLt];symm;simp;omega
  | negSucc b=>simp only [iLt,blt_dec];congr 1;apply propext;constructor <;> intro h <;> omega
def uMod:IntKind->Option Nat
 | .u8=>some 256
 | .u16=>some 65536
 | .u32=>some 4294967296
 | .u64=>some 18446744073709551616
 | _=>none
theorem uMod_eq {k:IntKind} {M:Nat} (h:uMod k=some M):M=2 ^ k.bits /\ k.signed=false:=by
 cases k <;> simp [uMod] at h <;> subst h <;> exact ⟨rfl,rfl⟩
theorem wrap_nat {k:IntKind} {M:Nat} (h:uMod k=some M) (a:Nat):k.wrap (a:Int)=((a % M:Nat):Int):=by
 obtain ⟨h1,h2⟩:=uMod_eq h
 subst h1
 simp [IntKind.wrap,h2]
def bitF (op:BinOp) (M a b:Nat):Option Nat:=match op with
 | .and=>some (Nat.land (Nat.mod a M) (Nat.mod b M))
 | .or=>some (Nat.lor (Nat.mod a M) (Nat.mod b M))
 | .xor=>some (Nat.xor (Nat.mod a M) (Nat.mod b M))
 | _=>none
def bitsVv (op:BinOp) (k:IntKind) (m n:Int):Option Value:=match m,n,uMod k with
 | .ofNat a,.ofNat b,some M=>match bitF op M a b with
  | some r=>some (.int k (.ofNat r))
  | none=>none
 | _,_,_=>none
noncomputable def intF (op:BinOp) (k:IntKind) (m n:Int):Option Value:=match op with
 | .add=>some (.int k (wrapF k (Int.add m n)))
 | .sub=>some (.int k (wrapF k (Int.sub m n)))
 | .mul=>some (.int k (wrapF k (Int.mul m n)))
 | .eql=>some (.bool (iEq m n))
 | .neq=>some (.bool (not (iEq m n)))
 | .lss=>some (.bool (iLt m n))
 | .leq=>some (.bool (not (iLt n m)))
 | .gtr=>some (.bool (iLt n m))
 | .geq=>some (.bool (not (iLt m n)))
 | .quo=>match m,n with
  | .ofNat a,.ofNat (b+1)=>some (.int k (wrapF k (.ofNat (Nat.div a (b+1)))))
  | _,_=>none
 | .rem=>match m,n with
  | .ofNat a,.ofNat (b+1)=>some (.int k (.ofNat (Nat.mod a (b+1))))
  | _,_=>none
 | op=>bitsVv op k m n
theorem ofInt_nat (w a:Nat):(BitVec.ofInt w (Int.ofNat a)).toNat=a % 2 ^ w:=by
 simp [BitVec.ofInt_natCast]
theorem intF_run {P:Program} {op:BinOp} {t:TypeId} {x y:Operand} {k:IntKind} {m n:Int} {r:Value} (h:intF op k m n=some r) :
 pureRun P (do eqGuard op t x y (.int k m) (.int k n);binOp op t (.int k m) (.int k n))=some r:=by
 have hg:(do eqGuard op t x y (.int k m) (.int k n);binOp op t (.int k m) (.int k n):Sem Value)=binOp op t (.int k m) (.int k n):=by cases op <;> rfl
 rw [hg]
 have bits:∀ {a b M q:Nat},uMod k=some M->bitF op M a b=some q->pureRun P (Op.intBits op k (Int.ofNat a) (Int.ofNat b))=some (.int k (.ofNat q)):=by
  intro a b M q hM hq
  obtain ⟨h1,h2⟩:=uMod_eq hM
  have hlt:∀ c,c % M < M:=fun c=>Nat.mod_lt _ (by rw [h1];exact Nat.two_pow_pos _)
  cases op <;> simp only [bitF,Option.some.injEq,reduceCtorEq] at hq <;> subst hq <;> simp only [Op.intBits]
  . show some (Value.int k (k.wrap ((BitVec.ofInt k.bits (Int.ofNat a) &&& BitVec.ofInt k.bits (Int.ofNat b)).toNat:Int)))=_
    rw [wrap_nat hM,Nat.mod_eq_of_lt (by rw [h1];exact BitVec.isLt _),BitVec.toNat_and,ofInt_nat,ofInt_nat,<- h1]
    rfl
  . show some (Value.int k (k.wrap ((BitVec.ofInt k.bits (Int.ofNat a) ||| BitVec.ofInt k.bits (Int.ofNat b)).toNat:Int)))=_
    rw [wrap_nat hM,Nat.mod_eq_of_lt (by rw [h1];exact BitVec.isLt _),BitVec.toNat_or,ofInt_nat,ofInt_nat,<- h1]
    rfl
  . show some (Value.int k (k.wrap ((BitVec.ofInt k.bits (Int.ofNat a) ^^^ BitVec.ofInt k.bits (Int.ofNat b)).toNat:Int)))=_
    rw [wrap_nat hM,Nat.mod_eq_of_lt (by rw [h1];exact BitVec.isLt _),BitVec.toNat_xor,ofInt_nat,ofInt_nat,<- h1]
    rfl
 have rest:(∀ a b,binOp op t (.int k a) (.int k b)=Op.intBits op k a b)->bitsVv op k m n=some r->pureRun P (binOp op t (.int k m) (.int k n))=some r:=by
  intro hb h2
  clear h hg
  rw [hb]
  cases m with
  | negSucc a=>cases h2
  | ofNat a=>cases n with
   | negSucc b=>cases h2
   | ofNat b =>
    simp only [bitsVv] at h2
    cases hM:uMod k with
    | none=>rw [hM] at h2;cases h2
    | some M =>
     rw [hM] at h2
     simp only at h2
     split at h2
     . rename_i q hq
       simp only [Option.some.injEq] at h2;subst h2
       exact bits hM hq
     . cases h2
 cases op with
 | add=>simp only [intF,Option.some.injEq] at h;subst h;simp only [binOp,ne_eq,not_true,if_false,Op.intArith,wrapF_eq];rfl
 | sub=>simp only [intF,Option.some.injEq] at h;subst h;simp only [binOp,ne_eq,not_true,if_false,Op.intArith,wrapF_eq];rfl
 | mul=>simp only [intF,Option.some.injEq] at h;subst h;simp only [binOp,ne_eq,not_true,if_false,Op.intArith,wrapF_eq];rfl
 | eql=>simp only [intF,Option.some.injEq] at h;subst h;simp only [binOp,ne_eq,not_true,if_false,Op.intCmp,iEq_eq];rfl
 | neq=>simp only [intF,Option.some.injEq] at h;subst h;simp only [binOp,ne_eq,not_true,if_false,Op.intCmp,iEq_eq];rfl
 | lss=>simp only [intF,Option.some.injEq] at h;subst h;simp only [binOp,ne_eq,not_true,if_false,Op.intCmp,iLt_eq];rfl
 | gtr=>simp only [intF,Option.some.injEq] at h;subst h;simp only [binOp,ne_eq,not_true,if_false,Op.intCmp,iLt_eq];rfl
 | leq =>
  simp only [intF,Option.some.injEq] at h;subst h;simp only [binOp,ne_eq,not_true,if_false,Op.intCmp,iLt_eq]
  refine congrArg (fun b=>some (Value.bool b)) ?_
  by_cases hh:n < m
  . simp [hh]
  . simp [hh];omega
 | geq =>
  simp only [intF,Option.some.injEq] at h;subst h;simp only [binOp,ne_eq,not_true,if_false,Op.intCmp,iLt_eq]
  refine congrArg (fun b=>some (Value.bool b)) ?_
  by_cases hh:m < n
  . simp [hh]
  . simp [hh];omega
 | quo =>
  simp only [intF] at h
  split at h
  . rename_i a b
    simp only [Option.some.injEq] at h;subst h
    simp only [binOp,ne_eq,not_true,if_false,Op.intDiv,wrapF_eq]
    rw [if_neg (by simp;omega)];rfl
  . cases h
 | rem =>
  simp only [intF] at h
  split at h
  . rename_i a b
    simp only [Option.some.injEq] at h;subst h
    simp only [binOp,ne_eq,not_true,if_false,Op.intDiv]
    rw [if_neg (by simp;omega)];rfl
  . cases h
 | and=>exact rest (fun a b=>by simp only [binOp,ne_eq,not_true,if_false]) h
 | or=>exact rest (fun a b=>by simp only [binOp,ne_eq,not_true,if_false]) h
 | xor=>exact rest (fun a b=>by simp only [binOp,ne_eq,not_true,if_false]) h
 | andNot=>exact rest (fun a b=>by simp only [binOp,ne_eq,not_true,if_false]) h
 | shl =>
  simp only [intF,bitsVv] at h
  split at h
  . simp [bitF] at h
  . cases h
 | shr =>
  simp only [intF,bitsVv] at h
  split at h
  . simp [bitF] at h
  . cases h
def amtF:AV->Option Nat
 | .u y=>some y.toNat
 | .v (.int _ (.ofNat n))=>some n
 | _=>none
noncomputable def kNum (k:IntKind):Nat:=IntKind.rec 0 1 2 3 4 5 6 7 k
theorem kNum_inj {k j:IntKind} (h:Nat.beq (kNum k) (kNum j)=true):k=j:=by
 have:=(beq_iff _ _).1 h
 cases k <;> cases j <;> first | rfl | (exact absurd this (by decide))
noncomputable def shV (op:BinOp) (k:IntKind) (a n:Nat):Option (Bool × AV):=match op with
 | .shl=>some (true,.v (.int k (wrapF k (.ofNat (Nat.mul a (Nat.pow 2 n))))))
 | .shr=>some (true,.v (.int k (.ofNat (Nat.div a (Nat.pow 2 n)))))
 | _=>none
noncomputable def fastSh (op:BinOp) (k:IntKind) (m:Int) (b:AV):Option (Bool × AV):=match m with
 | .ofNat a=>match amtF b with
  | some n=>cond (Nat.blt n k.bits) (shV op k a n) none
  | none=>none
 | _=>none
noncomputable def fastI (op:BinOp) (k:IntKind) (m:Int) (b:AV):Option (Bool × AV):=match isShift op with
 | true=>fastSh op k m b
 | false=>match b with
  | .v (.int j n)=>cond (Nat.beq (kNum k) (kNum j)) (match intF op k m n with
   | some r=>some (true,.v r)
   | none=>none) none
  | _=>none
def fastU (op:BinOp) (x:BitVec 64) (b:AV):Option (Bool × AV):=match isShift op with
 | true=>match amtF b with
  | some n=>match ushift op x n with
   | some r=>some (true,r)
   | none=>none
  | none=>none
 | false=>match b with
  | .u y=>match ubin op x y with
   | some r=>some (true,r)
   | none=>match udivA op x y with
    | some r=>some (!(y == 0#64),r)
    | none=>none
  | .bit c=>match ubin op x (bitW c) with
   | some r=>some (true,r)
   | none=>none
  | _=>none
noncomputable def fastBin (op:BinOp) (a b:AV):Option (Bool × AV):=match a with
 | .v (.int k m)=>fastI op k m b
 | .u x=>fastU op x b
 | _=>none
theorem amtF_flat {b:AV} {n:Nat} (h:amtF b=some n):∃ j,flat b=some (.int j (n:Int)) /\ toShift b=some (n:Int):=by
 unfold amtF at h
 split at h
 . simp at h;subst h;exact ⟨.u64,rfl,rfl⟩
 . simp at h;subst h;exact ⟨_,rfl,rfl⟩
 . cases h
theorem fastBin_ok {P:Program} {E:Env} {op:BinOp} {t:TypeId} {x y:Operand} {a b:AV} {q:Bool × AV} (h:fastBin op a b=some q):binF P E op t x y a b=some q:=by
 unfold fastBin at h
 split at h
 . rename_i k m
   unfold fastI at h
   split at h
   . rename_i hs
     unfold fastSh at h
     split at h
     . rename_i a
       split at h
       . rename_i n hn
         obtain ⟨hb,h⟩:=cond_some h
         have hb:=blt_lt hb
         obtain ⟨j,h1,h2⟩:=amtF_flat hn
         have hmin:Nat.min n k.bits=n:=Nat.min_eq_left (Nat.le_of_lt hb)
         have key:∀ r,pureRun P (do eqGuard op t x y (.int k (Int.ofNat a)) (.int j (n:Int));binOp op t (.int k (Int.ofNat a)) (.int j (n:Int)))=some r->binF P E op t x y (.v (.int k (Int.ofNat a))) b=some (true,.v r):=by
          intro r hr
          unfold binF
          simp only [hs,Rq.toU]
          unfold binPlain
          simp only [hs,h1,show flat (.v (.int k (Int.ofNat a)))=some (.int k (Int.ofNat a)) from rfl]
          rw [hr]
         cases op <;> simp only [shV,reduceCtorEq,Option.some.injEq] at h
         . subst h
           refine key _ ?_
           show pureRun P (Op.shift .shl k (Int.ofNat a) j (n:Int))=_
           simp only [Op.shift]
           rw [if_neg (by omega),wrapF_eq]
           show some (Value.int k (k.wrap (Int.ofNat a*2 ^ Nat.min n k.bits)))=_
           rw [hmin]
           congr 3
           try simp
         . subst h
           refine key _ ?_
           show pureRun P (Op.shift .shr k (Int.ofNat a) j (n:Int))=_
           simp only [Op.shift]
           rw [if_neg (by omega)]
           show some (Value.int k ((Int.ofNat a).fdiv (2 ^ Nat.min n k.bits)))=_
           rw [hmin]
           congr 2
           have h2:(2:Int) ^ n=((2 ^ n:Nat):Int):=by simp
           rw [h2,Int.fdiv_eq_ediv_of_nonneg _ (Int.natCast_nonneg _)]
           try rfl
       . cases h
     . cases h
   . rename_i hs
     split at h
     . rename_i j n
       obtain ⟨hk,h⟩:=cond_some h
       obtain rfl:k=j:=kNum_inj hk
       clear hk
       split at h
       . rename_i r hr
         simp at h;subst h
         unfold binF
         simp only [hs,Rq.toU]
         unfold binPlain
         simp only [hs,Rq.toU,Rq.aggOf,show ∀ z,flat (.v (.int k z))=some (.int k z) from fun _=>rfl]
         rw [intF_run hr]
       . exact absurd h (by simp)
     . cases h
 . rename_i u
   unfold fastU at h
   split at h
   . rename_i hs
     split at h
     . rename_i n hn
       obtain ⟨j,h1,h2⟩:=amtF_flat hn
       split at h
       . rename_i r hr
         simp at h;subst h
         unfold binF
         simp only [hs,Rq.toU,h2,Int.toNat_natCast,hr]
         rw [show decide ((0:Int) <= (n:Int))=true by simp]
       . cases h
     . cases h
   . rename_i hs
     split at h
     . rename_i v
       have hu:∀ r,ubin op u v=some r->binPlain P E op t x y (.u u) (.u v)=some r:=by
        intro r hr
        unfold binPlain
        simp only [hs,Rq.toU,ubinB,hr]
       split at h
       . rename_i r hr
         simp at h;subst h
         unfold binF
         simp only [hs,hu r hr]
       . rename_i hn
         split at h
         . rename_i r hr
           simp at h;subst h
           have:binPlain P E op t x y (.u u) (.u v)=none:=by
            unfold binPlain
            simp only [hs,Rq.toU,ubinB,hn]
           unfold binF
           simp only [hs,this,Rq.toU,hr]
         . cases h
     . rename_i v
       split at h
       . rename_i r hr
         simp at h;subst h
         have:binPlain P E op t x y (.u u) (.bit v)=some r:=by
          unfold binPlain
          simp only [hs,Rq.toU,ubinB,hr]
         unfold binF
         simp only [hs,this]
       . cases h
     . cases h
 . cases h
noncomputable def oOr (r:Option (Bool × AV)) (s:Option (Bool × AV × AH)):Option (Bool × AV × AH):=match r with
 | some (c,r)=>some (c,r,[])
 | none=>s
noncomputable def oP (r:Option (Bool × AV)):Option (Bool × AV × AH):=match r with
 | some (c,r)=>some (c,r,[])
 | none=>none
noncomputable def oLd (r:Option (Bool × AV)):Option (Bool × AV × AH):=match r with
 | some (c,r)=>some (c,r,[])
 | none=>none
noncomputable def oLoad (P:Program) (E:Env) (h:AH) (t:TypeId) (a:AV) (s:Option (Bool × AV × AH)):Option (Bool × AV × AH):=match a with
 | .ptr i off=>match h.getC i with
  | some B=>oLd (loadE P E.wide t B.cs off)
  | none=>none
 | _=>s
noncomputable def oSt (i:Nat) (B:Blk) (cs:Option (Bool × List AV)):Option (Bool × AV × AH):=match cs with
 | some (c,cs)=>some (c,.v undef,[(i,some ⟨true,B.ty,cs⟩)])
 | none=>none
noncomputable def oStore (P:Program) (E:Env) (h:AH) (t:TypeId) (a x:AV):Option (Bool × AV × AH):=match a with
 | .ptr i off=>match h.getC i with
  | some B=>match B.wr with
   | true=>oSt i B (storeE P E.wst t B.cs off x)
   | false=>none
  | none=>none
 | _=>none
def nilF:AV->Option (Bool × AV)
 | .ptr id off=>some (true,.ptr id off)
 | _=>none
def oFA (P:Program) (s:TypeId) (f:Nat) (a:AV):Option (Bool × AV):=match a with
 | .ptr id off=>match P.underlying s with
  | some (.struct fs)=>match fs.toList[f]? with
   | some fl=>match sz P fl.type with
    | some (_+1)=>some (true,.ptr id (off+fl.offset))
    | _=>none
   | none=>none
  | _=>none
 | _=>none
def oIA (P:Program) (t:TypeId) (a ix:AV):Option (Bool × AV):=match ix with
 | .v (.int _ (.ofNat n))=>match P.underlying t with
  | some (.array len el)=>match a with
   | .ptr id off=>match sz P el with
    | some m=>some (Nat.blt n len,.ptr id (off+n*m))
    | none=>none
   | _=>none
  | some (.slice el)=>match a with
   | .slc id off len _=>match sz P el with
    | some m=>some (Nat.blt n len,.ptr id (off+n*m))
    | none=>none
   | .own id es k len=>match sz P el with
    | some m=>some (Nat.blt n len,.ptr id (k*es+n*m))
    | none=>none
   | _=>none
  | _=>none
 | _=>none
def oEx (i:Nat) (a:AV):Option (Bool × AV):=match a with
 | .tup cs=>match cs[i]? with
  | some r=>some (true,r)
  | none=>none
 | _=>none
noncomputable def oCv (P:Program) (s d:TypeId) (a:AV):Option (Bool × AV):=match a with
 | .v (.int _ n)=>match P.underlying s,P.underlying d with
  | some (.int _),some (.int .u64)=>some (true,.u (BitVec.ofInt 64 n))
  | some (.int _),some (.int k)=>some (true,.v (.int k (wrapF k n)))
  | _,_=>none
 | .u x=>match P.underlying s,P.underlying d with
  | some (.int _),some (.int .u64)=>some (true,.u x)
  | some (.int _),some (.int k)=>some (true,.v (.int k (wrapF k (.ofNat x.toNat))))
  | _,_=>none
 | _=>none
noncomputable def oUn (op:UnOp) (a:AV):Option (Bool × AV):=match a with
 | .v (.bool b)=>match op with
  | .not=>some (true,.v (.bool (not b)))
  | _=>none
 | .lit b=>match op with
  | .not=>some (true,.v (.bool (not b)))
  | _=>none
 | .v (.int k n)=>match op with
  | .neg=>some (true,.v (.int k (wrapF k (Int.sub (.ofNat 0) n))))
  | .xor=>match n,uMod k with
   | .ofNat a,some M=>some (true,.v (.int k (.ofNat (Nat.xor (Nat.mod (Nat.pred M) M) (Nat.mod a M)))))
   | _,_=>none
  | _=>none
 | _=>none
noncomputable def oAct (ro:Bool) (id kk:Nat) (r:Option (Bool × AV × AH)):Option (Bool × AV × AH):=match ro with
 | false=>r
 | true=>match r with
  | some (c,r,ups)=>match allB id kk ups with
   | true=>some (c,r,ups)
   | false=>none
  | none=>none
noncomputable def oCallT (E:Env) (h:AH) (id fid:Nat) (as:List AV) (s:Option (Bool × AV × AH)):Option (Bool × AV × AH):=match E.pure fid with
 | some g=>oP (g as)
 | none=>match E.heap fid with
  | some _=>s
  | none=>match E.lay fid with
   | some _=>s
   | none=>match E.act fid with
    | some g=>oAct (memN fid E.ro) id E.kk (g as h id)
    | none=>none
noncomputable def oCallV (E:Env) (ev:Operand->AV) (h:AH) (id:Nat) (f:Operand) (args:List Operand) (s:Option (Bool × AV × AH)):Option (Bool × AV × AH):=match f with
 | .func fid=>frcL frc2 (maps ev args) fun as=>oCallT E h id fid as s
 | _=>s
noncomputable def oCall (E:Env) (ev:Operand->AV) (h:AH) (id:Nat) (c:Call) (s:Option (Bool × AV × AH)):Option (Bool × AV × AH):=match c.callee with
 | .value f=>oCallV E ev h id f c.args.toList s
 | _=>s
noncomputable def fastOp (P:Program) (E:Env) (ev:Operand->AV) (h:AH) (id:Nat) (op:Op):Option (Bool × AV × AH):=match op with
 | .move x=>some (true,ev x,[])
 | .assign x=>some (true,ev x,[])
 | .binOp o t x y u=>oOr (fastBin o (ev x) (ev y)) (effOp P E ev h id (.binOp o t x y u))
 | .load t a=>oLoad P E h t (ev a) (effOp P E ev h id (.load t a))
 | .store t a x=>oStore P E h t (ev a) (ev x)
 | .nilCheck x=>oOr (nilF (ev x)) (effOp P E ev h id (.nilCheck x))
 | .fieldAddr s x f=>oP (oFA P s f (ev x))
 | .indexAddr t x ix=>oOr (oIA P t (ev x) (ev ix)) (effOp P E ev h id (.indexAddr t x ix))
 | .extract x i=>oOr (oEx i (ev x)) (effOp P E ev h id (.extract x i))
 | .convert s d x=>oOr (oCv P s d (ev x)) (effOp P E ev h id (.convert s d x))
 | .unOp o t x=>oOr (oUn o (ev x)) (effOp P E ev h id (.unOp o t x))
 | .call c=>oCall E ev h id c (effOp P E ev h id (.call c))
 | op=>effOp P E ev h id op
theorem oOr_ok {r:Option (Bool × AV)} {s:Option (Bool × AV × AH)} {x:Bool × AV × AH} (h:oOr r s=some x) (hr:∀ c v,r=some (c,v)->s=some (c,v,[])):s=some x:=by
 unfold oOr at h
 split at h
 . rw [hr _ _ rfl];exact h
 . exact h
theorem xor_max {k:IntKind} {M:Nat} (h:uMod k=some M):k.max=Int.ofNat (Nat.pred M):=by
 cases k <;> simp [uMod] at h <;> subst h <;> rfl
theorem intBits_xor {P:Program} {k:IntKind} {M a b:Nat} (hM:uMod k=some M):pureRun P (Op.intBits .xor k (Int.ofNat a) (Int.ofNat b))=some (.int k (.ofNat (Nat.xor (Nat.mod a M) (Nat.mod b M)))):=by
 obtain ⟨h1,h2⟩:=uMod_eq hM
 simp only [Op.intBits]
 show some (Value.int k (k.wrap ((BitVec.ofInt k.bits (Int.ofNat a) ^^^ BitVec.ofInt k.bits (Int.ofNat b)).toNat:Int)))=_
 rw [wrap_nat hM,Nat.mod_eq_of_lt (by rw [h1];exact BitVec.isLt _),BitVec.toNat_xor,ofInt_nat,ofInt_nat,<- h1]
 rfl
theorem pureRun_bind {α β:Type} {P:Program} {f:α->Sem β}:∀ {s:Sem α} {a:α},pureRun P s=some a->pureRun P (s >>= f)=pureRun P (f a):=by
 intro s a h
 induction s with
 | pure b=>simp only [pureRun,Option.some.injEq] at h;subst h;rfl
 | program k ih=>simp only [pureRun] at h;exact ih _ h
 | _=>simp only [pureRun] at h;cases h
theorem pureRun_underlying {P:Program} {t:TypeId} {d:TypeDesc} (h:P.underlying t=some d):pureRun P (underlying t)=some d:=by
 show pureRun P (match P.underlying t with
  | some d=>pure d
  | none=>stuck "no such type")=_
 rw [h];rfl
theorem convert_int {P:Program} {s d:TypeId} {k j:IntKind} {a:TypeDesc} {n:Int} (h1:P.underlying s=some a) (h2:P.underlying d=some (.int k)):pureRun P (convert s d (.int j n))=some (.int k (wrapF k n)):=by
 rw [wrapF_eq]
 unfold convert
 rw [pureRun_bind (pureRun_underlying h1),pureRun_bind (pureRun_underlying h2)]
 cases a <;> rfl
theorem oCv_ok {P:Program} {E:Env} {ev:Operand->AV} {h:AH} {id:Nat} {s d:TypeId} {x:Operand} {c:Bool} {v:AV} (e:oCv P s d (ev x)=some (c,v)):effOp P E ev h id (.convert s d x)=some (c,v,[]):=by
 have main:isSl (ev x)=false->effBytes P id s d (ev x)=none->opPure P E ev (.convert s d x)=some (c,v)->effOp P E ev h id (.convert s d x)=some (c,v,[]):=by
  intro h1 h2 h3
  simp only [effOp,isMark,h1,h2,h3,Bool.and_false]
 unfold oCv at e
 split at e
 . rename_i j n hx
   refine main (by rw [hx];rfl) (by rw [hx];unfold effBytes;split <;> simp_all) ?_
   simp only [opPure,hx,Rq.toU,show flat (.v (.int j n))=some (.int j n) from rfl]
   split at e
   . rename_i a h1 h2
     simp at e;obtain ⟨rfl,rfl⟩:=e
     simp only [h1,h2]
   . rename_i a k hk h1 h2
     simp at e;obtain ⟨rfl,rfl⟩:=e
     rw [h1,h2]
     have hc:=convert_int (n:=n) (j:=j) h1 h2
     cases k with
     | u64=>exact absurd rfl hk
     | _=>simp only [hc]
   . cases e
 . rename_i u hx
   refine main (by rw [hx];rfl) (by rw [hx];unfold effBytes;split <;> simp_all) ?_
   simp only [opPure,hx,Rq.toU]
   split at e
   . rename_i a h1 h2
     simp at e;obtain ⟨rfl,rfl⟩:=e
     simp only [h1,h2]
   . rename_i a k hk h1 h2
     simp at e;obtain ⟨rfl,rfl⟩:=e
     rw [h1,h2]
     cases k with
     | u64=>exact absurd rfl hk
     | _=>simp only [wrapF_eq];rfl
   . cases e
 . cases e
theorem oUn_ok {P:Program} {E:Env} {ev:Operand->AV} {h:AH} {id:Nat} {o:UnOp} {t:TypeId} {x:Operand} {c:Bool} {v:AV} (e:oUn o (ev x)=some (c,v)):effOp P E ev h id (.unOp o t x)=some (c,v,[]):=by
 have main:opPure P E ev (.unOp o t x)=some (c,v)->effOp P E ev h id (.unOp o t x)=some (c,v,[]):=by
  intro h3
  simp only [effOp,h3]
 refine main ?_
 unfold oUn at e
 split at e
 . rename_i b hx
   split at e
   . simp at e;obtain ⟨rfl,rfl⟩:=e
     simp only [opPure,hx,Rq.toU,show flat (.v (.bool b))=some (.bool b) from rfl]
     rfl
   . cases e
 . rename_i b hx
   split at e
   . simp at e;obtain ⟨rfl,rfl⟩:=e
     simp only [opPure,hx,Rq.toU,show flat (.lit b)=some (.bool b) from rfl]
     rfl
   . cases e
 . rename_i k n hx
   split at e
   . simp at e;obtain ⟨rfl,rfl⟩:=e
     simp only [opPure,hx,Rq.toU,show flat (.v (.int k n))=some (.int k n) from rfl]
     rw [wrapF_eq];rfl
   . split at e
     . rename_i a M hM
       simp at e;obtain ⟨rfl,rfl⟩:=e
       simp only [opPure,hx,Rq.toU,show flat (.v (.int k (.ofNat a)))=some (.int k (.ofNat a)) from rfl]
       have:pureRun P (Op.unary .xor (.int k (.ofNat a)))=some (.int k (.ofNat (Nat.xor (Nat.mod (Nat.pred M) M) (Nat.mod a M)))):=by
        simp only [Op.unary,(uMod_eq hM).2]
        rw [if_neg (by simp),xor_max hM]
        exact intBits_xor hM
       simp only [this]
       rfl
     . cases e
   . cases e
 . cases e
theorem oIA_ok {P:Program} {E:Env} {ev:Operand->AV} {h:AH} {id:Nat} {t:TypeId} {x ix:Operand} {c:Bool} {v:AV} (e:oIA P t (ev x) (ev ix)=some (c,v)):effOp P E ev h id (.indexAddr t x ix)=some (c,v,[]):=by
 have main:opPure P E ev (.indexAddr t x ix)=some (c,v)->effOp P E ev h id (.indexAddr t x ix)=some (c,v,[]):=by
  intro h3
  simp only [effOp,h3]
 have hd:∀ (n len:Nat),decide (0 <= (n:Int) /\ (n:Int) < (len:Int))=Nat.blt n len:=by
  intro n len
  rw [blt_dec]
  congr 1
  apply propext
  constructor
  . intro h;exact Int.ofNat_lt.1 h.2
  . intro h;exact ⟨Int.natCast_nonneg _,Int.ofNat_lt.2 h⟩
 refine main ?_
 unfold oIA at e
 split at e
 . rename_i k n hix
   simp only [opPure,hix,show flat (.v (.int k (.ofNat n)))=some (.int k (.ofNat n)) from rfl]
   split at e
   . rename_i len el hu
     split at e
     . rename_i hx
       split at e
       . rename_i m hm
         simp at e;obtain ⟨rfl,rfl⟩:=e
         simp only [hu,hx,hm,Int.ofNat_eq_natCast,Int.toNat_natCast,hd]
       . cases e
     . cases e
   . rename_i el hu
     split at e
     . rename_i hx
       split at e
       . rename_i m hm
         simp at e;obtain ⟨rfl,rfl⟩:=e
         simp only [hu,hx,hm,Int.ofNat_eq_natCast,Int.toNat_natCast,hd]
       . cases e
     . rename_i hx
       split at e
       . rename_i m hm
         simp at e;obtain ⟨rfl,rfl⟩:=e
         simp only [hu,hx,hm,Int.ofNat_eq_natCast,Int.toNat_natCast,hd]
       . cases e
     . cases e
   . cases e
 . cases e
theorem fastBin_eff {P:Program} {E:Env} {ev:Operand->AV} {h:AH} {id:Nat} {o:BinOp} {t u:TypeId} {x y:Operand} {c:Bool} {v:AV} (e:fastBin o (ev x) (ev y)=some (c,v)):effOp P E ev h id (.binOp o t x y u)=some (c,v,[]):=by
 have hb:=fastBin_ok (P:=P) (E:=E) (t:=t) (x:=x) (y:=y) e
 have main:opPure P E ev (.binOp o t x y u)=some (c,v)->effOp P E ev h id (.binOp o t x y u)=some (c,v,[]):=by
  intro h3
  simp only [effOp,h3]
 refine main ?_
 unfold fastBin at e
 split at e
 . rename_i k m hx
   simp only [opPure,hx]
   rw [hx] at hb
   exact hb
 . rename_i w hx
   simp only [opPure,hx]
   rw [hx] at hb
   exact hb
 . cases e
theorem oCallV_ok {P:Program} {E:Env} {ev:Operand->AV} (hf:∀ f,ev (.func f)=.fn (.func f) [] []) {h:AH} {id:Nat} {c:Call} {f:Operand} (hc:c.callee=.value f) {x:Bool × AV × AH}
 (e:oCallV E ev h id f c.args.toList (effOp P E ev h id (.call c))=some x):effOp P E ev h id (.call c)=some x:=by
 unfold oCallV at e
 split at e
 . rename_i fid
   rw [frcL_eq frc2_eq] at e
   unfold oCallT at e
   have hs:effOp P E ev h id (.call c)=effCall E ev h id (.func fid) c.args.toList:=by simp only [effOp,hc]
   split at e
   . rename_i g hg
     rw [hs]
     unfold effCall
     rw [hf]
     simp only [hg,List.nil_append,List.append_nil]
     exact e
   . rename_i hp
     split at e
     . exact e
     . rename_i hh
       split at e
       . exact e
       . rename_i hl
         rw [hs]
         unfold effCall
         rw [hf]
         simp only [hp,hh,hl]
         split at e
         . rename_i g hg
           unfold oAct at e
           simp only [hg]
           exact e
         . cases e
 . exact e
theorem fastOp_ok {P:Program} {E:Env} {ev:Operand->AV} (hf:∀ f,ev (.func f)=.fn (.func f) [] []) {h:AH} {id:Nat} {op:Op} {x:Bool × AV × AH} (e:fastOp P E ev h id op=some x):effOp P E ev h id op=some x:=by
 cases op with
 | move y=>exact e
 | assign y=>exact e
 | binOp o t y z u=>exact oOr_ok e fun c v hr=>fastBin_eff hr
 | load t a =>
  simp only [fastOp,oLoad] at e
  split at e
  . rename_i i off ha
    simp only [effOp,ha]
    exact e
  . exact e
 | store t a y =>
  simp only [fastOp,oStore] at e
  split at e
  . rename_i i off ha
    simp only [effOp,ha]
    exact e
  . cases e
 | nilCheck y =>
  refine oOr_ok e fun c v hr=>?_
  unfold nilF at hr
  split at hr
  . rename_i i off hy
    simp at hr;obtain ⟨rfl,rfl⟩:=hr
    simp only [effOp,opPure,hy]
  . cases hr
 | fieldAddr s y f =>
  simp only [fastOp,oP] at e
  split at e
  . rename_i c v hr
    unfold oFA at hr
    split at hr
    . rename_i i off hy
      split at hr
      . rename_i fs hu
        simp only [effOp,opPure,hu,hy]
        split at hr
        . rename_i fl hfl
          simp only [hfl]
          split at hr
          . rename_i n hn
            simp at hr;obtain ⟨rfl,rfl⟩:=hr
            simp only [hn];exact e
          . cases hr
        . cases hr
      . cases hr
    . cases hr
  . cases e
 | indexAddr t y z=>exact oOr_ok e fun c v hr=>oIA_ok hr
 | extract y i =>
  refine oOr_ok e fun c v hr=>?_
  unfold oEx at hr
  split at hr
  . rename_i cs hy
    split at hr
    . rename_i q hq
      simp at hr;obtain ⟨rfl,rfl⟩:=hr
      simp only [effOp,opPure,hy,hq]
    . cases hr
  . cases hr
 | convert s d y=>exact oOr_ok e fun c v hr=>oCv_ok hr
 | unOp o t y=>exact oOr_ok e fun c v hr=>oUn_ok hr
 | call c =>
  simp only [fastOp,oCall] at e
  split at e
  . rename_i f hc
    exact oCallV_ok hf hc e
  . exact e
 | _=>exact e
noncomputable def lookC (L:Nat) (t:PT):Operand->AV
 | .tmp k=>cond (Nat.blt k L) (t.get k) .any
 | .const v=>constA v
 | .global g=>.v (.pointer (some ⟨g,0,none⟩))
 | .func f=>.fn (.func f) [] []
noncomputable def putC {β:Type} (L:Nat) (t:PT) (d:Option Tmp) (a:AV) (f:PT->β):β:=match d with
 | some d=>cond (Nat.blt d L) (t.setK d a f) (f t)
 | none=>f t
noncomputable def wantedC (L:Nat) (t:PT) (ops:Array Oper) (o:Oper):Option Bool :=
 match o.guard with
 | none=>some true
 | some (j,want)=>match (ops.toList[j]?).bind (·.dst) with
  | none=>some false
  | some d=>cond (Nat.blt d L) (match t.get d with
   | .lit b=>some (b == want)
   | .v (.bool b)=>some (b == want)
   | .v (.tuple _)=>some false
   | _=>none) (some false)
noncomputable def frcBlk {β:Type} (b:Option Blk) (f:Option Blk->β):β:=match b with
 | none=>f none
 | some B=>frcB B.wr fun wr=>frcN B.ty fun ty=>frcL frc1 B.cs fun cs=>f (some ⟨wr,ty,cs⟩)
theorem frcBlk_eq {β:Type} (b:Option Blk) (f:Option Blk->β):frcBlk b f=f b:=by
 unfold frcBlk
 split
 . rfl
 . rw [frcB_eq,frcN_eq,frcL_eq frc1_eq]
noncomputable def insK {β:Type} (h:AH) (i:Nat) (b:Option Blk) (f:AH->β):β:=List.rec (motive:=fun _=>(AH->β)->β) (fun f=>f [(i,b)]) (fun p t ih f=>cond (Nat.beq p.1 i) (f ((i,b) :: t)) (ih fun t=>f (p :: t))) h f
def insA:AH->Nat->Option Blk->AH
 | [],i,b=>[(i,b)]
 | p :: t,i,b=>cond (Nat.beq p.1 i) ((i,b) :: t) (p :: insA t i b)
theorem insK_eq {β:Type}:∀ (h:AH) (i:Nat) (b:Option Blk) (f:AH->β),insK h i b f=f (insA h i b)
 | [],i,b,f=>rfl
 | p :: t,i,b,f=>by
  show cond (Nat.beq p.1 i) (f ((i,b) :: t)) (insK t i b fun t=>f (p :: t))=f (cond _ _ _)
  rw [insK_eq t]
  cases Nat.beq p.1 i <;> rfl
theorem insA_get (i:Nat) (b:Option Blk) (j:Nat):∀ (h:AH),AH.get (insA h i b) j=if i=j then b else AH.get h j
 | []=>by rw [show insA [] i b=[(i,b)] from rfl,AH.get_cons]
 | (q,c) :: t=>by
  show AH.get (cond (Nat.beq q i) ((i,b) :: t) ((q,c) :: insA t i b)) j=_
  cases hq:Nat.beq q i with
  | true =>
   have:=(beq_iff _ _).1 hq
   subst this
   rw [cond_true,AH.get_cons,AH.get_cons]
   by_cases e:q=j
   . rw [if_pos e,if_pos e]
   . rw [if_neg e,if_neg e,if_neg e]
  | false =>
   have:=beq_off.1 hq
   rw [cond_false,AH.get_cons,AH.get_cons,insA_get i b j t]
   by_cases e:q=j
   . rw [if_pos e,if_neg (fun h=>this (e.trans h.symm)),if_pos e]
   . rw [if_neg e]
     by_cases e':i=j
     . rw [if_pos e',if_pos e']
     . rw [if_neg e',if_neg e',if_neg e]
noncomputable def upsK {β:Type} (h:AH) (u:AH):(AH->β)->β:=List.rec (motive:=fun _=>(AH->β)->β) (fun f=>f h) (fun p _ ih f=>ih fun h=>frcN p.1 fun i=>frcBlk p.2 fun b=>insK h i b f) u
theorem upsK_eq {β:Type} (h:AH):∀ (u:AH) (f:AH->β),upsK h u f=f (u.foldr (fun p h=>insA h p.1 p.2) h)
 | [],f=>rfl
 | p :: t,f=>by
  show upsK h t (fun h=>frcN p.1 fun i=>frcBlk p.2 fun b=>insK h i b f)=_
  rw [upsK_eq h t,frcN_eq,frcBlk_eq,insK_eq]
  rfl
theorem ups_get (h:AH) (j:Nat):∀ (u:AH),AH.get (u.foldr (fun p h=>insA h p.1 p.2) h) j=AH.get (u ++ h) j
 | []=>rfl
 | (i,b) :: t=>by
  show AH.get (insA (t.foldr (fun p h=>insA h p.1 p.2) h) i b) j=AH.get ((i,b) :: (t ++ h)) j
  rw [insA_get,AH.get_cons,ups_get h j t]
structure CS where
 t:PT
 h:AH
 n:Nat
noncomputable def crunOps (P:Program) (E:Env) (L base:Nat) (ops:Array Oper):List Oper->Nat->PT->AH->Option (PT × AH)
 | [],_,t,h=>some (t,h)
 | o :: l,i,t,h=>match wantedC L t ops o with
  | none=>none
  | some false=>putC L t o.dst (.v undef) fun t=>frcN (i+1) fun i=>crunOps P E L base ops l i t h
  | some true=>match tauOk E i o.op (lookC L t) with
   | false=>none
   | true=>match fastOp P E (lookC L t) h (base+E.kk*i) o.op with
    | some (true,r,ups)=>match upsOk E o.op ups with
     | true=>frc2 r fun r=>putC L t o.dst r fun t=>upsK h ups fun h=>frcN (i+1) fun i=>crunOps P E L base ops l i t h
     | false=>none
    | _=>none
noncomputable def crunT (P:Program) (E:Env) (L:Nat) (ops:Array Oper) (c:CS):Option (AExit × CS):=match chk E ops with
 | false=>none
 | true=>match crunOps P E L c.n ops ops.toList 0 c.t c.h with
  | some (t,h)=>frcN (c.n+E.kk*ops.size) fun n=>some (.normal,⟨t,h,n⟩)
  | none=>none
noncomputable def citer (f:CS->Option (AExit × CS)):Nat->CS->Option (AExit × CS)
 | 0,_=>none
 | k+1,c=>match f c with
  | some (.normal,c)=>citer f k c
  | r=>r
noncomputable def crun (P:Program) (E:Env) (L lf:Nat):Code->CS->Option (AExit × CS)
 | .skip,c=>some (.normal,c)
 | .label _,c=>some (.normal,c)
 | .ret,c=>some (.ret,c)
 | .exit id,c=>some (.exit id,c)
 | .region _ ops d,c=>cond (E.late && (d && !chk E ops)) (crunT P (E.withTau (tauOf P E ops.toList c.n (lookC L c.t) c.h ops.toList 0)) L ops c) (match crunOps P E L c.n ops ops.toList 0 c.t c.h with
  | some (t,h)=>frcN (c.n+E.kk*ops.size) fun n=>some (.normal,⟨t,h,n⟩)
  | none=>none)
 | .seq a b,c=>match crun P E L lf a c with
  | some (.normal,c)=>crun P E L lf b c
  | r=>r
 | .cond o a b,c=>match boolOf (lookC L c.t o) with
  | some true=>crun P E L lf a c
  | some false=>crun P E L lf b c
  | none=>none
 | .block id a,c=>match crun P E L lf a c with
  | some (.exit i,c)=>cond (Nat.beq i id) (some (.normal,c)) (some (.exit i,c))
  | r=>r
 | .loop a,c=>citer (crun P E L lf a) lf c
 | _,_=>none
structure RepC (L D:Nat) (t:PT) (h:AH) (s:St):Prop where
 len:s.tm.length=L
 fit:L <= 2 ^ D
 deep:t.deep D
 tm:∀ k,k < L->t.get k=s.tm.getD k .any
 h:∀ id,s.h.get id=h.get id
 ok:s.ok=true
theorem RepC.look {L D:Nat} {t:PT} {h:AH} {s:St} (r:RepC L D t h s):lookC L t=look s.tm:=by
 funext x
 cases x with
 | tmp k =>
  show cond (Nat.blt k L) (t.get k) .any=s.tm.getD k .any
  cases hb:Nat.blt k L with
  | true=>exact r.tm k (Nat.le_of_ble_eq_true hb)
  | false =>
   have:¬ k < L:=fun hh=>by rw [show Nat.blt k L=true from Nat.ble_eq_true_of_le hh] at hb;cases hb
   have hk:s.tm.length <= k:=by rw [r.len];exact Nat.le_of_not_lt this
   rw [cond_false,List.getD_eq_getElem?_getD,List.getElem?_eq_none hk]
   rfl
 | _=>rfl
theorem RepC.wanted {L D:Nat} {t:PT} {h:AH} {s:St} (r:RepC L D t h s) (ops:Array Oper) (o:Oper):wantedC L t ops o=wantedA ops s.tm o:=by
 unfold wantedC wantedA
 rcases o.guard with _ | ⟨j,want⟩
 . rfl
 . simp only
   rcases (ops.toList[j]?).bind (·.dst) with _ | d
   . rfl
   . simp only
     cases hb:Nat.blt d L with
     | true =>
      have hd:d < L:=Nat.le_of_ble_eq_true hb
      have e:s.tm[d]?=some (t.get d):=by
       rw [r.tm d hd,List.getD_eq_getElem?_getD,List.getElem?_eq_getElem (by rw [r.len];exact hd)]
       rfl
      rw [cond_true,e]
      cases t.get d with
      | v x=>cases x <;> rfl
      | _=>rfl
     | false =>
      have:¬ d < L:=fun hh=>by rw [show Nat.blt d L=true from Nat.ble_eq_true_of_le hh] at hb;cases hb
      have hk:s.tm.length <= d:=by rw [r.len];exact Nat.le_of_not_lt this
      rw [cond_false,List.getElem?_eq_none hk]
theorem RepC.put {L D:Nat} {t:PT} {h h':AH} {s:St} (r:RepC L D t h s) (d:Option Tmp) (a:AV) (ups:AH) (hh:∀ id,AH.get (ups ++ s.h) id=h'.get id) {β:Type} (f:PT->β) :
 ∃ t',putC L t d a f=f t' /\ RepC L D t' h' (s.put ⟨true,d,a,ups⟩):=by
 cases d with
 | none=>exact ⟨t,rfl,r.len,r.fit,r.deep,r.tm,hh,by simp [St.put,r.ok]⟩
 | some d =>
  show ∃ t',cond (Nat.blt d L) (t.setK d a f) (f t)=f t' /\ _
  cases hb:Nat.blt d L with
  | true =>
   have hd:d < L:=Nat.le_of_ble_eq_true hb
   refine ⟨t.set d a,PT.setK_eq _ _ _ _,by simp [St.put,putA,r.len],r.fit,PT.set_deep r.deep,fun k hk=>?_,hh,by simp [St.put,r.ok]⟩
   rw [PT.get_set r.deep (Nat.lt_of_lt_of_le hd r.fit) (Nat.lt_of_lt_of_le hk r.fit),r.tm k hk]
   show _=(s.tm.set d a).getD k .any
   rw [List.getD_eq_getElem?_getD,List.getD_eq_getElem?_getD,List.getElem?_set]
   by_cases e:d=k
   . rw [if_pos e,if_pos e,if_pos (by rw [r.len];exact hd)];rfl
   . rw [if_neg e,if_neg e]
  | false =>
   have hd:¬ d < L:=fun hh=>by rw [show Nat.blt d L=true from Nat.ble_eq_true_of_le hh] at hb;cases hb
   refine ⟨t,rfl,by simp [St.put,putA,r.len],r.fit,r.deep,fun k hk=>?_,hh,by simp [St.put,r.ok]⟩
   rw [r.tm k hk]
   show _=(s.tm.set d a).getD k .any
   have hk:s.tm.length <= d:=by rw [r.len];exact Nat.le_of_not_lt hd
   rw [List.set_eq_of_length_le hk]
theorem crunOps_ok {P:Program} {E:Env} (hE:EnvOk P E) {L D base:Nat} {ops:Array Oper}:∀ (l:List Oper) (i:Nat) (t:PT) (h:AH) (t':PT) (h':AH) (s:St),ops.toList.drop i=l->RepC L D t h s ->
 crunOps P E L base ops l i t h=some (t',h')->∃ s',RepC L D t' h' s' /\ (runT P E [] base ops (List.range' i l.length) s).holds (fun q=>q=s')
 | [],i,t,h,t',h',s,hl,r,e=>by
  simp only [crunOps,Option.some.injEq,Prod.mk.injEq] at e
  obtain ⟨rfl,rfl⟩:=e
  refine ⟨s,r,?_⟩
  show (Tree.need s.ok (Tree.leaf (⟨s.tm,s.h,true⟩:St))).holds _
  refine ⟨r.ok,?_⟩
  show (⟨s.tm,s.h,true⟩:St)=s
  rw [<- r.ok]
 | o :: l,i,t,h,t',h',s,hl,r,e=>by
  have hget:ops.toList[i]?=some o:=by
   have:=congrArg (fun l=>l[0]?) hl
   simpa [List.getElem?_drop] using this
  have hl':ops.toList.drop (i+1)=l:=by
   rw [<- List.drop_drop,hl];rfl
  have next:∀ (ef:Eff),eff P E (fun _=>none) base ops i s.tm s.h=some ef->∀ s',(runT P E [] base ops (List.range' (i+1) l.length) (s.put ef)).holds (fun q=>q=s') ->
   (runT P E [] base ops (List.range' i (l.length+1)) s).holds (fun q=>q=s'):=by
   intro ef he s' hk
   rw [List.range'_succ]
   simp only [runT]
   rw [he]
   simp only
   split
   . exact hk
   . exact hk
  simp only [crunOps] at e
  rw [r.wanted] at e
  split at e
  . cases e
  . rename_i hw
    have he:eff P E (fun _=>none) base ops i s.tm s.h=some ⟨true,o.dst,.v undef,[]⟩:=by
     unfold eff
     simp only [hget,hw]
    obtain ⟨t1,h1,h2⟩:=r.put (h':=h) o.dst (.v undef) [] r.h (fun t=>frcN (i+1) fun i=>crunOps P E L base ops l i t h)
    rw [h1,frcN_eq] at e
    obtain ⟨s',k1,k2⟩:=crunOps_ok hE l (i+1) t1 h t' h' _ hl' h2 e
    exact ⟨s',k1,next _ he s' k2⟩
  . rename_i hw
    split at e
    . cases e
    rename_i htk
    rw [r.look] at htk
    split at e
    . rename_i q ups hq
      split at e
      case h_2=>cases e
      rename_i huk
      have hq':effOp P E (Rq.look s.tm) s.h (base+E.kk*i) o.op=some (true,q,ups):=by
       rw [effOp_congr_h hE r.h,<- r.look];exact fastOp_ok (fun _=>rfl) hq
      have he:eff P E (fun _=>none) base ops i s.tm s.h=some ⟨true,o.dst,q,ups⟩:=by
       unfold eff
       simp only [hget,hw,htk,effT_mk hq' huk]
      rw [frc2_eq] at e
      obtain ⟨t1,h1,h2⟩:=r.put (h':=ups.foldr (fun p h=>insA h p.1 p.2) h) o.dst q ups (fun id=>by
       rw [ups_get,AH.get_append_congr r.h id]) (fun t=>upsK h ups fun h=>frcN (i+1) fun i=>crunOps P E L base ops l i t h)
      rw [h1,upsK_eq,frcN_eq] at e
      obtain ⟨s',k1,k2⟩:=crunOps_ok hE l (i+1) t1 _ t' h' _ hl' h2 e
      exact ⟨s',k1,next _ he s' k2⟩
    . cases e
theorem condA_none {E:Env} (hm:E.mrg=[]) (c:Operand) (a b:Code) (x:XS):condA E [] c a b x=none:=by
 unfold condA
 cases c with
 | tmp ct =>
  simp only
  rw [hm,show inL ct ([]:List Nat)=false from rfl,Bool.false_and]
 | _=>rfl
theorem evR_congr {P:Program} {E:Env} (hE:EnvOk P E) {ops:List Oper} {base:Nat} {lk:Operand->AV} {h h':AH} (hh:∀ id,h.get id=h'.get id):∀ (k:Nat) (x:Operand),evR P E ops base lk h k x=evR P E ops base lk h' k x
 | 0,_=>rfl
 | k+1,x=>by
  have ih:evR P E ops base lk h k=evR P E ops base lk h' k:=funext (evR_congr hE hh k)
  unfold evR
  simp only [ih,effOp_congr_h hE hh]
theorem ovT_congr {P:Program} {E:Env} (hE:EnvOk P E) {base:Nat} {lk:Operand->AV}:∀ (l:List Oper) (i:Nat) (ov:List (Tmp × AV)) {h h':AH},(∀ id,h.get id=h'.get id)->ovT P E base lk l i ov h=ovT P E base lk l i ov h'
 | [],_,_,_,_,_=>rfl
 | o :: t,i,ov,h,h',hh=>by
  unfold ovT
  rw [effOp_congr_h hE hh]
  split
  . exact ovT_congr hE t (i+1) _ fun id=>AH.get_append_congr hh id
  . exact ovT_congr hE t (i+1) _ hh
theorem tauOf_congr {P:Program} {E:Env} (hE:EnvOk P E) {ops:List Oper} {base:Nat} {lk:Operand->AV} {h h':AH} (hh:∀ id,h.get id=h'.get id):∀ (l:List Oper) (i:Nat),tauOf P E ops base lk h l i=tauOf P E ops base lk h' l i
 | [],_=>rfl
 | o :: l,i=>by
  unfold tauOf
  rw [tauOf_congr hE hh l (i+1)]
  simp only [evR_congr hE hh,ovT_congr hE _ _ _ hh]
theorem crun_ok {P:Program} {E:Env} (hE:EnvOk P E) (_htau:E.tau=none) (hm:E.mrg=[]) {L D lf:Nat}:∀ (code:Code) (c:CS) (e:AExit) (c':CS) (s:St),RepC L D c.t c.h s ->
 crun P E L lf code c=some (e,c')->∃ s',RepC L D c'.t c'.h s' /\ (exec P E [] (fun _=>none) lf code ⟨s,c.n⟩).holds (fun q=>q=(e,⟨s',c'.n⟩)):=by
 intro code
 induction code with
 | skip=>intro c e c' s r h;simp only [crun,Option.some.injEq,Prod.mk.injEq] at h;obtain ⟨rfl,rfl⟩:=h;exact ⟨s,r,rfl⟩
 | label l=>intro c e c' s r h;simp only [crun,Option.some.injEq,Prod.mk.injEq] at h;obtain ⟨rfl,rfl⟩:=h;exact ⟨s,r,rfl⟩
 | ret=>intro c e c' s r h;simp only [crun,Option.some.injEq,Prod.mk.injEq] at h;obtain ⟨rfl,rfl⟩:=h;exact ⟨s,r,rfl⟩
 | exit id=>intro c e c' s r h;simp only [crun,Option.some.injEq,Prod.mk.injEq] at h;obtain ⟨rfl,rfl⟩:=h;exact ⟨s,r,rfl⟩
 | region id ops d =>
  intro c e c' s r h
  simp only [crun] at h
  cases hc:(E.late && (d && !chk E ops)) with
  | true =>
   rw [hc,cond_true] at h
   rw [r.look] at h
   unfold crunT at h
   split at h
   . cases h
   rename_i hck
   split at h
   . rename_i t h1 hr
     rw [frcN_eq] at h
     simp only [Option.some.injEq,Prod.mk.injEq] at h
     obtain ⟨rfl,rfl⟩:=h
     obtain ⟨s',k1,k2⟩:=crunOps_ok (withTau_ok hE _) ops.toList 0 c.t c.h t h1 s rfl r hr
     refine ⟨s',k1,?_⟩
     simp only [exec,hc,cond_true,tauOf_congr hE r.h,hck]
     rw [rangeL_eq,List.append_nil,List.range_eq_range']
     refine Tree.bind_holds (Tree.holds_mono (fun q hq=>?_) (by simpa using k2))
     subst hq
     rfl
   . cases h
  | false =>
   rw [hc,cond_false] at h
   split at h
   . rename_i t h1 hr
     rw [frcN_eq] at h
     simp only [Option.some.injEq,Prod.mk.injEq] at h
     obtain ⟨rfl,rfl⟩:=h
     obtain ⟨s',k1,k2⟩:=crunOps_ok hE ops.toList 0 c.t c.h t h1 s rfl r hr
     refine ⟨s',k1,?_⟩
     simp only [exec,hc,cond_false]
     rw [rangeL_eq,List.append_nil,List.range_eq_range']
     refine Tree.bind_holds (Tree.holds_mono (fun q hq=>?_) (by simpa using k2))
     subst hq
     rfl
   . cases h
 | seq a b iha ihb =>
  intro c e c' s r h
  simp only [crun] at h
  split at h
  . rename_i c1 h1
    obtain ⟨s1,r1,k1⟩:=iha c _ _ s r h1
    obtain ⟨s2,r2,k2⟩:=ihb c1 _ _ s1 r1 h
    refine ⟨s2,r2,?_⟩
    simp only [exec]
    refine Tree.bind_holds (Tree.holds_mono (fun q hq=>?_) k1)
    subst hq
    exact k2
  . rename_i hn
    obtain ⟨s1,r1,k1⟩:=iha c _ _ s r h
    refine ⟨s1,r1,?_⟩
    simp only [exec]
    refine Tree.bind_holds (Tree.holds_mono (fun q hq=>?_) k1)
    subst hq
    cases e with
    | normal=>exact absurd h (hn c')
    | _=>rfl
 | cond o a b iha ihb =>
  intro c e c' s r h
  simp only [crun] at h
  rw [r.look] at h
  simp only [exec,condA_none hm]
  split at h
  . rename_i hb
    obtain ⟨s1,r1,k1⟩:=iha c _ _ s r h
    refine ⟨s1,r1,?_⟩
    rw [hb];exact k1
  . rename_i hb
    obtain ⟨s1,r1,k1⟩:=ihb c _ _ s r h
    refine ⟨s1,r1,?_⟩
    rw [hb];exact k1
  . cases h
 | block id a iha =>
  intro c e c' s r h
  simp only [crun] at h
  split at h
  . rename_i i c1 h1
    obtain ⟨s1,r1,k1⟩:=iha c _ _ s r h1
    cases hi:Nat.beq i id with
    | true =>
     rw [hi,cond_true] at h
     simp only [Option.some.injEq,Prod.mk.injEq] at h
     obtain ⟨rfl,rfl⟩:=h
     refine ⟨s1,r1,?_⟩
     simp only [exec]
     refine Tree.bind_holds (Tree.holds_mono (fun q hq=>?_) k1)
     subst hq
     simp only [hi,cond_true]
     rfl
    | false =>
     rw [hi,cond_false] at h
     simp only [Option.some.injEq,Prod.mk.injEq] at h
     obtain ⟨rfl,rfl⟩:=h
     refine ⟨s1,r1,?_⟩
     simp only [exec]
     refine Tree.bind_holds (Tree.holds_mono (fun q hq=>?_) k1)
     subst hq
     simp only [hi,cond_false]
     rfl
  . rename_i hn
    obtain ⟨s1,r1,k1⟩:=iha c _ _ s r h
    refine ⟨s1,r1,?_⟩
    simp only [exec]
    refine Tree.bind_holds (Tree.holds_mono (fun q hq=>?_) k1)
    subst hq
    cases e with
    | exit i=>exact absurd h (hn i c')
    | _=>rfl
 | loop a iha =>
  intro c e c' s r h
  simp only [crun] at h
  simp only [exec]
  have main:∀ (k:Nat) (c:CS) (s:St),RepC L D c.t c.h s->citer (crun P E L lf a) k c=some (e,c')->∃ s',RepC L D c'.t c'.h s' /\ (iter (exec P E [] (fun _=>none) lf a) k ⟨s,c.n⟩).holds (fun q=>q=(e,⟨s',c'.n⟩)):=by
   intro k
   induction k with
   | zero=>intro c s r h;cases h
   | succ k ih =>
    intro c s r h
    simp only [citer] at h
    split at h
    . rename_i c1 h1
      obtain ⟨s1,r1,k1⟩:=iha c _ _ s r h1
      obtain ⟨s2,r2,k2⟩:=ih c1 s1 r1 h
      refine ⟨s2,r2,?_⟩
      simp only [iter]
      refine Tree.bind_holds (Tree.holds_mono (fun q hq=>?_) k1)
      subst hq
      exact k2
    . rename_i hn
      obtain ⟨s1,r1,k1⟩:=iha c _ _ s r h
      refine ⟨s1,r1,?_⟩
      simp only [iter]
      refine Tree.bind_holds (Tree.holds_mono (fun q hq=>?_) k1)
      subst hq
      cases e with
      | normal=>exact absurd h (hn c')
      | _=>rfl
  exact main lf c s r h
 | _=>intro c e c' s r h;simp [crun] at h
noncomputable def initK {β:Type} (t:PT):List AV->Nat->(PT->β)->β
 | [],_,f=>f t
 | a :: l,k,f=>frc2 a fun a=>t.setK k a fun t=>initK t l (k+1) f
theorem initK_eq {β:Type} {D:Nat}:∀ (l:List AV) (k:Nat) (t:PT) (f:PT->β),t.deep D->k+l.length <= 2 ^ D->∃ t',initK t l k f=f t' /\ t'.deep D /\ ∀ j,j < 2 ^ D->t'.get j=if k <= j /\ j < k+l.length then l.getD (j - k) .any else t.get j
 | [],k,t,f,hd,hk=>⟨t,rfl,hd,fun j hj=>by rw [if_neg (by simp only [List.length_nil];omega)]⟩
 | a :: l,k,t,f,hd,hk=>by
  simp only [List.length_cons] at hk
  obtain ⟨t',h1,h2,h3⟩:=initK_eq l (k+1) (t.set k a) f (PT.set_deep hd) (by omega)
  refine ⟨t',?_,h2,fun j hj=>?_⟩
  . simp only [initK]
    rw [frc2_eq,PT.setK_eq]
    exact h1
  . rw [h3 j hj,PT.get_set hd (by omega) hj]
    simp only [List.length_cons]
    by_cases e:k=j
    . subst e
      rw [if_neg (by omega),if_pos rfl,if_pos (by omega),Nat.sub_self];rfl
    . by_cases e2:k+1 <= j /\ j < k+1+l.length
      . rw [if_pos e2,if_pos (by omega),show j - k=(j - (k+1))+1 by omega];rfl
      . rw [if_neg e2,if_neg e,if_neg (by omega)]
noncomputable def resC (P:Program) (L:Nat) (t:PT) (h:AH):ResultVar->Option AV
 | .tmp k=>cond (Nat.blt k L) (some (t.get k)) none
 | .cell a ty=>match lookC L t (.tmp a) with
  | .ptr id off=>match h.getC id with
   | some B=>match loadA P ty B.cs off with
    | some r=>some r
    | none=>none
   | none=>none
  | _=>none
noncomputable def resAllC (P:Program) (L:Nat) (t:PT) (h:AH):List ResultVar->Option (List AV)
 | []=>some []
 | r :: l=>match resC P L t h r with
  | none=>none
  | some a=>match resAllC P L t h l with
   | none=>none
   | some m=>some (a :: m)
theorem resC_eq {P:Program} {L D:Nat} {t:PT} {h:AH} {s:St} (r:RepC L D t h s) {x:ResultVar} {a:AV} (e:resC P L t h x=some a):resA P s.tm s.h x=some a:=by
 cases x with
 | tmp k =>
  simp only [resC] at e
  obtain ⟨hb,e⟩:=cond_some e
  have hk:k < L:=Nat.le_of_ble_eq_true hb
  simp only [resA]
  rw [<- e,r.tm k hk,List.getD_eq_getElem?_getD,List.getElem?_eq_getElem (by rw [r.len];exact hk)]
  rfl
 | cell a' ty =>
  simp only [resC,r.look] at e
  simp only [resA]
  rw [show Rq.look s.tm (.tmp a')=s.tm.getD a' .any from rfl] at e
  split at e
  . rename_i id off hv
    rw [hv]
    simp only
    rw [getC_congr (r.h id)]
    split at e
    . rename_i B hB
      rw [hB]
      simp only
      split at e
      . rename_i q hq
        rw [hq];exact e
      . cases e
    . cases e
  . cases e
theorem resAllC_eq {P:Program} {L D:Nat} {t:PT} {h:AH} {s:St} (r:RepC L D t h s):∀ {l:List ResultVar} {m:List AV},resAllC P L t h l=some m->resAll P s.tm s.h l=some m
 | [],m,e=>e
 | x :: l,m,e=>by
  simp only [resAllC] at e
  simp only [resAll]
  split at e
  . cases e
  . rename_i a ha
    rw [resC_eq r ha]
    simp only
    split at e
    . cases e
    . rename_i q hq
      rw [resAllC_eq r hq]
      exact e
noncomputable def crunF (P:Program) (E:Env) (D lf f:Nat) (args:List AV) (h:AH) (n:Nat):Option (AV × AH) :=
 match P.funcs.toList[f]? with
 | none=>none
 | some fn=>match fn.body with
  | none=>none
  | some c=>frcN (args.length+(fn.ntmps - args.length)) fun L=>cond (Nat.ble L (2 ^ D)) (initK (PT.uni D) args 0 fun t=>match crun P E L lf c ⟨t,h,n⟩ with
   | some (.exit _,_)=>none
   | some (_,y)=>match resAllC P L y.t y.h fn.results.toList with
    | none=>none
    | some l=>frc2 (one1 l) fun r=>some (r,y.h)
   | none=>none) none
theorem undefs_length:∀ n,(undefs n).length=n
 | 0=>rfl
 | n+1=>by simp [undefs,undefs_length n]
theorem undefs_get:∀ n k,k < n->(undefs n)[k]?=some (.v undef)
 | 0,k,h=>absurd h (Nat.not_lt_zero _)
 | n+1,0,h=>rfl
 | n+1,k+1,h=>by simp only [undefs,List.getElem?_cons_succ];exact undefs_get n k (by omega)
theorem crunF_ok {P:Program} {E:Env} (hE:EnvOk P E) (htau:E.tau=none) (hm:E.mrg=[]) {D lf f:Nat} {args:List AV} {h:AH} {n:Nat} {r:AV} {h':AH}
 (e:crunF P E D lf f args h n=some (r,h')):(afun P E [] (fun _=>none) lf f args h n).holds (fun q=>q.1=r /\ ∀ id,q.2.get id=h'.get id):=by
 unfold crunF at e
 unfold afun
 split at e
 . cases e
 rename_i fn hf
 split at e
 . cases e
 rename_i c hb
 rw [frcN_eq] at e
 obtain ⟨hL,e⟩:=cond_some e
 have hL:=Nat.le_of_ble_eq_true hL
 obtain ⟨t,h1,h2,h3⟩:=initK_eq args 0 (PT.uni D) (fun t=>match crun P E (args.length+(fn.ntmps - args.length)) lf c ⟨t,h,n⟩ with
  | some (.exit _,_)=>none
  | some (_,y)=>match resAllC P (args.length+(fn.ntmps - args.length)) y.t y.h fn.results.toList with
   | none=>none
   | some l=>frc2 (one1 l) fun r=>some (r,y.h)
  | none=>none) (PT.uni_deep D) (by omega)
 rw [h1] at e
 have rep:RepC (args.length+(fn.ntmps - args.length)) D t h ⟨args ++ undefs (fn.ntmps - args.length),h,true⟩:=by
  refine ⟨by simp [undefs_length],hL,h2,fun k hk=>?_,fun _=>rfl,rfl⟩
  rw [h3 k (by omega)]
  show _=(args ++ undefs (fn.ntmps - args.length)).getD k .any
  by_cases hk':k < args.length
  . rw [if_pos (by omega),Nat.sub_zero,List.getD_eq_getElem?_getD,List.getD_eq_getElem?_getD,List.getElem?_append_left hk']
  . rw [if_neg (by omega),List.getD_eq_getElem?_getD,List.getElem?_append_right (by omega),undefs_get _ _ (by omega),PT.uni_get];rfl
 simp only [hf,hb]
 have fin:∀ (ex:AExit) (y:CS),crun P E (args.length+(fn.ntmps - args.length)) lf c ⟨t,h,n⟩=some (ex,y)->(∀ i,ex ≠ .exit i)->(match resAllC P (args.length+(fn.ntmps - args.length)) y.t y.h fn.results.toList with
  | none=>none
  | some l=>frc2 (one1 l) fun r=>some (r,y.h))=some (r,h') ->
  ((exec P E [] (fun _=>none) lf c ⟨⟨args ++ undefs (fn.ntmps - args.length),h,true⟩,n⟩).bind fun (x:AExit × XS)=>match x.1 with
  | .exit _=>Tree.fail
  | _=>match resAll P x.2.s.tm x.2.s.h fn.results.toList with
   | none=>.fail
   | some l=>.leaf (one1 l,x.2.s.h)).holds (fun q=>q.1=r /\ ∀ id,q.2.get id=h'.get id):=by
  intro ex y hc hex hr
  obtain ⟨s',k1,k2⟩:=crun_ok hE htau hm c _ _ _ _ rep hc
  refine Tree.bind_holds (Tree.holds_mono (fun q hq=>?_) k2)
  subst hq
  split at hr
  . cases hr
  . rename_i l hl
    rw [frc2_eq] at hr
    simp only [Option.some.injEq,Prod.mk.injEq] at hr
    obtain ⟨rfl,rfl⟩:=hr
    have hl':=resAllC_eq k1 hl
    cases ex with
    | exit i=>exact absurd rfl (hex i)
    | normal=>simp only [hl'];exact ⟨rfl,k1.h⟩
    | ret=>simp only [hl'];exact ⟨rfl,k1.h⟩
 split at e
 . cases e
 . rename_i ex y hne hc
   exact fin ex y hc (fun i hi=>by subst hi;exact hne i rfl) e
 . cases e
noncomputable def inlineC (P:Program) (E:Env) (D lf f:Nat) (as:List AV):Option (Bool × AV) :=
 match allFlat as with
 | true=>match crunF P E D lf f as [] 0 with
  | some (r,_)=>match isFlat r with
   | true=>some (true,r)
   | false=>none
  | none=>none
 | false=>none
theorem inlineC_ok {P:Program} {E:Env} {D lf f:Nat} (X:Ctx P E [] (fun _=>none) lf f) (htau:E.tau=none) (hm:E.mrg=[]):PureOk P f (inlineC P E D lf f):=by
 refine pure_core X fun as r hg=>?_
 unfold inlineC at hg
 split at hg
 . rename_i hfl
   split at hg
   . rename_i q h' hq
     split at hg
     . rename_i hfr
       simp at hg;subst hg
       unfold allFlat at hfl
       split at hfl
       . rename_i l hl
         unfold isFlat at hfr
         split at hfr
         . rename_i y hy
           refine ⟨as,l,fun ρ xs hx=>hx.flatL_eq hl,hl,y,hy,?_⟩
           exact Tree.bind_holds (Tree.holds_mono (fun a ha=>by show flat a.1=some y;rw [ha.1];exact hy) (crunF_ok X.env htau hm hq))
         . cases hfr
       . cases hfl
     . cases hg
   . cases hg
 . cases hg
noncomputable def frcP {β:Type} (p:Nat × Option Blk) (f:Nat × Option Blk->β):β:=frcN p.1 fun i=>frcBlk p.2 fun b=>f (i,b)
theorem frcP_eq {β:Type} (p:Nat × Option Blk) (f:Nat × Option Blk->β):frcP p f=f p:=by
 unfold frcP
 rw [frcN_eq,frcBlk_eq]
noncomputable def deepC (P:Program) (E:Env) (D lf f kk:Nat) (rd:Bool) (args:List AV) (h:AH) (z:Nat):Option (Bool × AV × AH) :=
 match closeI h 65536 (args.foldr nm3 []) [] with
 | none=>none
 | some ids=>frcL frcN ids fun ids=>frcL frcP (inH h (inM ids) (!rd) ids 0) fun h0=>match crunF P E D lf f (args.map (mv3 (inM ids))) h0 ids.length with
  | none=>none
  | some (r,h')=>backL kk rd ids z r h' (closeX h' ids.length 65536 (nm3 r (bif rd then [] else namesH h' ids.length)) [])
theorem deepC_ok {P:Program} {E:Env} {D lf f kk:Nat} {rd:Bool} (X:Ctx P E [] (fun _=>none) lf f) (htau:E.tau=none) (hm:E.mrg=[]):ActOk P kk f (deepC P E D lf f kk rd):=by
 obtain ⟨fn,c,hf,hb,hok,htab⟩:=X.body
 have same:∀ {args:List AV} {h h':AH} {z:Nat} {x:Bool × AV × AH},(∀ ids,closeI h 65536 (args.foldr nm3 []) []=some ids->closeI h' 65536 (args.foldr nm3 []) []=some ids /\ ∀ i ∈ ids,h.get i=h'.get i) ->
  deepC P E D lf f kk rd args h z=some x->deepC P E D lf f kk rd args h' z=some x:=by
  intro args h h' z x hh hg
  unfold deepC at hg ⊢
  split at hg
  . cases hg
  . rename_i ids hi
    obtain ⟨h1,h2⟩:=hh ids hi
    have e:∀ (l:List Nat) (n:Nat),(∀ i ∈ l,h.get i=h'.get i)->inH h (inM ids) (!rd) l n=inH h' (inM ids) (!rd) l n:=by
     intro l
     induction l with
     | nil=>intro n _;rfl
     | cons i t ih =>
      intro n hl
      simp only [inH]
      rw [hl i (by simp),ih (n+1) (fun j hj=>hl j (by simp [hj]))]
    simp only [h1]
    rw [frcL_eq frcN_eq,frcL_eq frcP_eq] at hg ⊢
    rw [<- e ids 0 h2]
    exact hg
 have hin:∀ {args:List AV} {h:AH} {ids:List Nat},closeI h 65536 (args.foldr nm3 []) []=some ids->∀ i ∈ ids,∃ B,h.get i=some B:=fun e=>closeI_in e (fun i hi=>by simp at hi)
 refine ⟨?_,fun args h h' z x hle hg=>same (fun ids hi=>⟨closeI_mono hle hi,fun i hm=>?_⟩) hg,fun F ρ args xs z u h w x hx hw hu hg=>?_,fun args h z c' r ups hg=>?_⟩
 . intro F ρ args xs h z r ups w hg hx hw hz
   unfold deepC at hg
   split at hg
   . cases hg
   rename_i ids hi
   rw [frcL_eq frcN_eq,frcL_eq frcP_eq] at hg
   split at hg
   . cases hg
   rename_i r0 h0 hq
   unfold backL at hg
   obtain ⟨hc,hg⟩:=cond_some hg
   simp only [Bool.and_eq_true] at hc
   obtain ⟨c1,c2,c3⟩:=hc
   simp at hg
   obtain ⟨rfl,rfl⟩:=hg
   have hnd:ids.Nodup:=closeI_nodup hi List.nodup_nil
   have hcall:=afun_calls X.env X.mixed hf hb hok (tabOk_none c) (K:=fun a h'=>a=r0 /\ ∀ id,h'.get id=h0.get id) (crunF_ok X.env htau hm hq) (F:=deepF ρ h (bif rd then [] else ids) w)
    (Rvs.mapS (mv3_ok NmOk.ins) hx) (deep_in hw rd hnd) (fun id hid=>by
     have:ids[id]?=none:=by rw [List.getElem?_eq_none_iff];exact hid
     simp [Ren.ins,this])
   refine Calls.mono hcall ?_
   rintro e w' ⟨v,q,h',ρ',rfl,⟨rfl,hk⟩,hrv,hrw,hsame⟩
   have hrw:=hrw.congr (fun id=>(hk id).symm)
   have c1:=Nat.le_of_ble_eq_true c1
   refine ⟨v,ρ.out ρ' _ z,rfl,Ren.le_out hz c1,fun j hj=>?_,mv3_ok (NmOk.out hz c1 hsame) _ _ hrv,?_⟩
   . exact (Ren.out_old (fun hh=>hj ⟨hh.1,by omega⟩)).1
   . exact deep_out hw (hin hi) hz c1 (nodB_spec c2) (newOk_spec c3) hrw hsame
 . obtain ⟨B,hB⟩:=hin hi i hm
   rw [hB,hle i B hB]
 . refine same (fun ids hi=>?_) hg
   have hn:∀ i ∈ args.foldr nm3 [],ρ i ≠ none:=fun i hm=>(foldr_named nm3_named hx hm).resolve_left (by simp)
   have h1:=closeI_local hw hu hn hi
   refine ⟨h1,fun i hm=>?_⟩
   obtain ⟨B,hB⟩:=hin h1 i hm
   obtain ⟨b,o,g1,_⟩:=hw.blk i B hB
   rw [AH.get_append,if_neg]
   rintro ⟨p,hp,rfl⟩
   rw [hu p hp] at g1;cases g1
 . unfold deepC at hg
   split at hg
   . cases hg
   rename_i ids hi
   rw [frcL_eq frcN_eq,frcL_eq frcP_eq] at hg
   split at hg
   . cases hg
   unfold backL at hg
   obtain ⟨hc,hg⟩:=cond_some hg
   simp only [Bool.and_eq_true] at hc
   have c1:=Nat.le_of_ble_eq_true hc.1
   simp at hg
   obtain ⟨-,-,rfl⟩:=hg
   intro p hp
   rcases List.mem_append.1 hp with hp | hp
   . have:=newH_dom p hp
     exact .inl ⟨this.1,by omega⟩
   . refine .inr (hin hi p.1 ?_)
     have:=oldH_dom p hp
     cases rd with
     | true=>simp at this
     | false=>exact this
end Go.Rq

namespace Go.Rq
open Go Go.RowKit
def noDef:Op->Bool
 | .defer _=>false
 | _=>true
def noDefs:List Oper->Bool
 | []=>true
 | o :: t=>noDef o.op && noDefs t
theorem noDefs_mem:∀ {l:List Oper},noDefs l=true->∀ o ∈ l,noDef o.op=true
 | [],_,o,h=>by cases h
 | x :: t,e,o,h=>by
  simp only [noDefs,Bool.and_eq_true] at e
  rcases List.mem_cons.1 h with rfl | h
  . exact e.1
  . exact noDefs_mem e.2 o h
theorem rows_in {P:Program} {row:String} {args:Array Value} {w:World} {R:Value->World->Prop} {lr n:Nat} (h:Rows P row args w R):RowsIn (Fence.wide.inRound lr) n P row args w R :=
 fun c cs _=>let ⟨v,w',r,s⟩:=h c cs;⟨v,w',r,stepsIn_wide.2 s⟩
theorem wpOps_in {P:Program} {lr n:Nat} {ops:Array Oper} {Q:Exit->Act->World->Prop} (nd:noDefs ops.toList=true) (hlo:¬ LetsOut Q) :
 ∀ (l:List Nat) (a:Act) (w:World),wpOps P ops Q l a w->wpOpsIn (Fence.wide.inRound lr) n P ops Q l a w
 | [],a,w,h=>h
 | i :: t,a,w,h=>by
  unfold wpOps at h
  unfold wpOpsIn
  cases ho:ops[i]? with
  | none=>rw [ho] at h;exact wpOps_in nd hlo t a w h
  | some o =>
   rw [ho] at h
   simp only at h ⊢
   have hnd:noDef o.op=true:=noDefs_mem nd o (by
    have:=Array.mem_of_getElem? ho
    simpa using this)
   split
   . rename_i hw
     rw [if_pos hw] at h
     rcases h with h | ⟨_,h⟩
     . refine ⟨fun _ _=>trivial,?_⟩
       have hs:o.semAt (Fence.wide.inRound lr).round a.eval=execOp a.eval o:=Oper.semAt_eq _ _ _ (fun c hc=>by rw [hc] at hnd;cases hnd)
       rw [hs]
       unfold Oper.wp at h
       generalize (execOp a.eval o).run P w=r at h ⊢
       cases r with
       | ok x w' =>
        cases x with
        | value v=>exact wpOps_in nd hlo t _ _ h
        | skip=>exact wpOps_in nd hlo t _ _ h
        | defer d=>exact wpOps_in nd hlo t _ _ h
        | enter f args =>
         refine ⟨fun hh=>Bool.noConfusion hh,?_⟩
         refine CallsIn.inRound lr (callsIn_wide.2 (Calls.mono h ?_))
         intro e w2 he
         cases e with
         | returned v=>exact wpOps_in nd hlo t _ _ he
         | panicked ch=>exact he
         | outgrown=>exact absurd he hlo
        | row row args =>
         refine ⟨fun hh=>Bool.noConfusion hh,?_⟩
         exact rows_in (Rows.mono h fun v w2 he=>wpOps_in nd hlo t _ _ he)
        | _=>exact h.elim
       | halt x w'=>cases x <;> first | exact h | exact h.elim
     . exact absurd h hlo
   . rename_i hw
     rw [if_neg hw] at h
     exact ⟨fun _ _=>trivial,wpOps_in nd hlo t _ _ h⟩
def Post (F:Fr) (ds:List Deferred) (m:Nat) (ρ:Ren) (K:AExit->XS->Prop):Exit->Act->World->Prop :=
 fun e a' w'=>∃ e' y ρ',K e' y /\ e'.is e /\ Sim F ds ρ' y.s a' w' /\ m <= y.n /\ (∀ id,y.n <= id->ρ' id=none) /\ (∀ id,id < m->Ren.eqAt ρ' ρ id)
theorem Post.lets {F:Fr} {ds:List Deferred} {m:Nat} {ρ:Ren} {K:AExit->XS->Prop}:¬ LetsOut (Post F ds m ρ K):=by
 rintro ⟨a,w,e',y,ρ',_,he,_⟩
 cases e' <;> exact he
def TriR (lr n:Nat) (P:Program) (F:Fr) (ds:List Deferred) (m:Nat) (c:Code) (x:XS) (K:AExit->XS->Prop):Prop :=
 ∀ ρ a w,Sim F ds ρ x.s a w->m <= x.n->(∀ id,x.n <= id->ρ id=none)->c.wpIn (Fence.wide.inRound lr) n P (Post F ds m ρ K) a w
theorem region_round {P:Program} {E:Env} (hE:EnvOk P E) (hm:P.follows .mixedOrders=true) {F:Fr} {ds:List Deferred} {m lr nn:Nat} {id:Nat} {ops:Array Oper} {draw:Bool} (nd:noDefs ops.toList=true) (hchk:draw=true->chk E ops=true) {x:XS}
 {K:AExit->XS->Prop} (h:(runT P E [] x.n ops (rangeL 0 ops.size []) x.s).holds (fun s=>K .normal ⟨s,x.n+E.kk*ops.size⟩)):TriR lr nn P F ds m (.region id ops draw) x K:=by
 rw [rangeL_eq,List.append_nil] at h
 obtain ⟨γ,s',h1,h2,h3⟩:=runT_sound List.nodup_range h
 intro ρ a w hs hmn hfr
 have fin:∀ a' w' ρ',ρ.le ρ'->(∀ id,(∀ j ∈ List.range ops.size,¬ inR (x.n+E.kk*j) E.kk id)->ρ' id=ρ id)->Sim F ds ρ' s' a' w'->Post F ds m ρ K .normal a' w':=by
  intro a' w' ρ' hle hne hs'
  refine ⟨.normal,_,ρ',h3,trivial,⟨hs'.tm,hs'.h,hs'.ds⟩,by simp;omega,fun id hid=>?_,fun id hid=>?_⟩
  . simp at hid
    rw [hne id (fun j hj hin=>by
     have h1:j < ops.size:=by simpa using hj
     have:=inR_top hin h1
     omega)]
    exact hfr id (by omega)
  . exact ⟨hne id (fun j hj hin=>by have:=inR_ge hin;omega),fun b hb=>(hle id b hb).2⟩
 cases draw with
 | false =>
  refine wpIn_region (wpOps_in nd Post.lets _ _ _ (list_sim hE h2 _ _ ρ a w List.nodup_range h1 hs (fun j _ id hin=>hfr id (inR_ge hin)) fin))
 | true =>
  refine wpIn_region_draw fun t=>wpOps_in nd Post.lets _ _ _ ?_
  simp only [Region.schedule,hm,Bool.true_or,if_true]
  refine wpAny_sound ops.size t _ a _ ?_
  refine any_sim hE (hchk rfl) h2 ops.size _ x.s ρ a { w with drawn:=w.drawn+1 } (by simp) (by rw [todo_all];simp) ?_ s' (by rw [todo_all];exact h1) (Eqv.refl _) ⟨hs.tm,hs.h.drawn _,hs.ds⟩ (fun j _ id hin=>hfr id (inR_ge hin)) ?_
  . intro y o hy
    simp [Array.getD] at hy
  . rw [todo_all];exact fin
def inRd:Code->Bool
 | .skip=>true
 | .region _ ops _=>noDefs ops.toList
 | .seq a b=>inRd a && inRd b
 | .block _ c=>inRd c
 | _=>false
theorem exec_round {P:Program} {E:Env} (hE:EnvOk P E) (hm:P.follows .mixedOrders=true) {F:Fr} {ds:List Deferred} {m lr nn lf:Nat} :
 ∀ (c:Code) (x:XS) (K:AExit->XS->Prop),inRd c=true->codeOk E c=true->(exec P E [] (fun _=>none) lf c x).holds (fun r=>K r.1 r.2)->TriR lr nn P F ds m c x K:=by
 intro c
 induction c with
 | skip=>intro x K _ _ h ρ a w hs hmn hf;exact wpIn_skip ⟨.normal,x,ρ,h,trivial,hs,hmn,hf,fun id _=>Ren.eqAt.refl ρ id⟩
 | region id ops d =>
  intro x K hp hk h
  simp only [inRd] at hp
  simp only [exec] at h
  cases hl:(E.late && (d && !chk E ops)) with
  | true =>
   rw [hl,cond_true] at h
   cases hc:chk (E.withTau (tauOf P E ops.toList x.n (look x.s.tm) x.s.h ops.toList 0)) ops with
   | false=>rw [hc] at h;exact h.elim
   | true =>
    rw [hc,cond_true] at h
    exact region_round (withTau_ok hE _) hm hp (fun _=>hc) (Tree.holds_bind h)
  | false =>
   rw [hl,cond_false] at h
   refine region_round hE hm hp ?_ (Tree.holds_bind h)
   intro hd;subst hd
   cases hc:chk E ops with
   | true=>rfl
   | false =>
    simp [codeOk,hc] at hk hl
    rw [hk] at hl;cases hl
 | seq a b iha ihb =>
  intro x K hp hk h
  simp only [exec] at h
  simp only [codeOk,inRd,Bool.and_eq_true] at hk hp
  intro ρ ac w hs hmn hf
  have ha:=iha x (fun e y=>match e with
   | .normal=>(exec P E [] (fun _=>none) lf b y).holds (fun r=>K r.1 r.2)
   | e=>K e y) hp.1 hk.1 (by
    refine Tree.holds_mono ?_ (Tree.holds_bind h)
    rintro ⟨e,y⟩ hy
    cases e <;> exact hy) ρ ac w hs hmn hf
  refine wpIn_seq (wpIn_mono ha ?_)
  rintro e a' w' ⟨e',y,ρ',hk',he,hs',hmy,hf',hp'⟩
  cases e' with
  | normal =>
   cases e <;> simp only [AExit.is] at he
   refine wpIn_mono (ihb y K hp.2 hk.2 hk' ρ' a' w' hs' hmy hf') ?_
   rintro e2 a2 w2 ⟨e2',y2,ρ2,q1,q2,q3,q4,q5,q6⟩
   exact ⟨e2',y2,ρ2,q1,q2,q3,q4,q5,fun id hid=>(q6 id hid).trans (hp' id hid)⟩
  | exit i =>
   cases e <;> simp only [AExit.is] at he
   exact ⟨.exit i,y,ρ',hk',he,hs',hmy,hf',hp'⟩
  | ret =>
   cases e <;> simp only [AExit.is] at he
   exact ⟨.ret,y,ρ',hk',trivial,hs',hmy,hf',hp'⟩
 | block id c ih =>
  intro x K hp hk h
  simp only [exec] at h
  simp only [codeOk,inRd] at hk hp
  intro ρ ac w hs hmn hf
  have hc:=ih x (fun e y=>match e with
   | .exit i=>(bif Nat.beq i id then Tree.leaf (AExit.normal,y) else Tree.leaf (.exit i,y)).holds (fun r=>K r.1 r.2)
   | e=>K e y) hp hk (by
    refine Tree.holds_mono ?_ (Tree.holds_bind h)
    rintro ⟨e,y⟩ hy
    cases e <;> exact hy) ρ ac w hs hmn hf
  refine wpIn_block (wpIn_mono hc ?_)
  rintro e a' w' ⟨e',y,ρ',hk',he,hs',hmy,hf',hp'⟩
  cases e' with
  | normal =>
   cases e <;> simp only [AExit.is] at he
   exact ⟨.normal,y,ρ',hk',trivial,hs',hmy,hf',hp'⟩
  | exit i =>
   cases e <;> simp only [AExit.is] at he
   subst he
   simp only [Exit.inBlock]
   simp only at hk'
   cases hb:Nat.beq i id with
   | true =>
    rw [hb] at hk'
    rw [if_pos (Nat.eq_of_beq_eq_true hb)]
    exact ⟨.normal,y,ρ',hk',trivial,hs',hmy,hf',hp'⟩
   | false =>
    rw [hb] at hk'
    rw [if_neg (Nat.ne_of_beq_eq_false hb)]
    exact ⟨.exit i,y,ρ',hk',rfl,hs',hmy,hf',hp'⟩
  | ret =>
   cases e <;> simp only [AExit.is] at he
   exact ⟨.ret,y,ρ',hk',trivial,hs',hmy,hf',hp'⟩
 | _=>intro x K hp;cases hp
structure Fr.le (F F':Fr):Prop where
 blocks:∀ b o,F.blocks b=some o->F'.blocks b=some o
 os:F'.os=F.os
 tape:F'.tape=F.tape
 out:F'.out=F.out
theorem RW.weaken {F F':Fr} {ρ:Ren} {h:AH} {w:World} (r:RW F' ρ h w) (hle:F.le F') (hg:GF F):RW F ρ h w:=by
 refine ⟨fun id B hB=>?_,r.inj,fun b o ho=>r.fr b o (hle.blocks b o ho),r.os.trans hle.os,r.tape.trans hle.tape,r.out.trans hle.out,hg⟩
 obtain ⟨b,o,h1,h2,h3,h4,h5⟩:=r.blk id B hB
 refine ⟨b,o,h1,h2,h3,fun hw=>?_,h5⟩
 cases hb:F.blocks b with
 | none=>rfl
 | some q =>
  have:=hle.blocks b q hb
  rw [h4 hw] at this
  cases this
noncomputable def frz (ρ:Ren) (h:AH) (w:World):Fr:=⟨fun b=>open Classical in if ∃ i B,h.get i=some B /\ B.wr=true /\ ρ i=some b then none else w.heap[b]?,w.os,w.tape,w.output⟩
theorem frz_at {ρ:Ren} {h:AH} {w:World} {b:Nat} (e:¬ ∃ i B,h.get i=some B /\ B.wr=true /\ ρ i=some b):(frz ρ h w).blocks b=w.heap[b]?:=if_neg e
theorem frz_none {ρ:Ren} {h:AH} {w:World} {b:Nat} (e:∃ i B,h.get i=some B /\ B.wr=true /\ ρ i=some b):(frz ρ h w).blocks b=none:=if_pos e
theorem frz_some {ρ:Ren} {h:AH} {w:World} {b:Nat} {o:Obj} (e:(frz ρ h w).blocks b=some o):w.heap[b]?=some o:=by
 by_cases hx:∃ i B,h.get i=some B /\ B.wr=true /\ ρ i=some b
 . rw [frz_none hx] at e;cases e
 . rw [frz_at hx] at e;exact e
theorem RW.frz_le {F:Fr} {ρ:Ren} {h:AH} {w:World} (r:RW F ρ h w):F.le (frz ρ h w):=by
 refine ⟨fun b o ho=>?_,r.os,r.tape,r.out⟩
 rw [frz_at,r.fr b o ho]
 rintro ⟨i,B,h1,h2,h3⟩
 obtain ⟨b',o',g1,-,-,g4,-⟩:=r.blk i B h1
 rw [h3] at g1;simp at g1;subst g1
 rw [g4 h2] at ho;cases ho
theorem RW.frz {F:Fr} {ρ:Ren} {h:AH} {w:World} (r:RW F ρ h w):RW (frz ρ h w) ρ h w:=by
 refine ⟨fun id B hB=>?_,r.inj,fun b o ho=>frz_some ho,rfl,rfl,rfl,?_⟩
 . obtain ⟨b,o,h1,h2,h3,-,h5⟩:=r.blk id B hB
   exact ⟨b,o,h1,h2,h3,fun hw=>frz_none ⟨id,B,hB,hw,h1⟩,h5⟩
 . intro g cs hg
   obtain ⟨xs,ty,fr,k1,k2⟩:=r.gc g cs hg
   exact ⟨xs,ty,fr,r.frz_le.blocks _ _ k1,k2⟩
def cellsH (h:AH):Prop:=∀ id B,h.get id=some B->B.cell=true
theorem frz_keeps {F:Fr} {ρ:Ren} {h:AH} {w:World} (r:RW F ρ h w) (hc:cellsH h) {ρ':Ren} {h':AH} {w':World} (r':RW (frz ρ h w) ρ' h' w') (B:Nat):Keeps B w w':=by
 intro k o _ hk ho
 refine r'.fr k o ?_
 rw [frz_at,hk]
 rintro ⟨i,b,h1,-,h3⟩
 obtain ⟨b',o',g1,g2,g3,-⟩:=r.blkC (getC_mk h1 (hc i b h1))
 rw [h3] at g1;simp at g1;subst g1
 rw [hk] at g2;simp at g2;subst g2
 obtain ⟨xs,fr,rfl,-⟩:=g3
 cases ho
theorem RW.grown {F:Fr} {ρ:Ren} {h:AH} {w w':World} {B:Nat} {row:Option Nat} (r:RW F ρ h w) (hc:cellsH h) (hF:∀ b o,F.blocks b=some o->b < B) (hg:w.grownBy w' row)
 (hr:∀ k,row=some k->B <= k /\ ∃ o:Obj,w.heap[k]?=some o /\ o.isCells=false):RW F ρ h w':=by
 have same:∀ b o,w.heap[b]?=some o->(∀ k,row=some k->b ≠ k)->w'.heap[b]?=some o:=fun b o ho hne =>
  (hg.block b (Array.getElem?_eq_some_iff.1 ho).1 (fun e=>hne b e.symm rfl)).trans ho
 refine ⟨fun id B' hB=>?_,r.inj,fun b o ho=>same b o (r.fr b o ho) (fun k hk e=>?_),hg.os.trans r.os,hg.tape.trans r.tape,hg.output.trans r.out,r.gc⟩
 . obtain ⟨b,o,h1,h2,h3,h4,h5⟩:=r.blkC (getC_mk hB (hc id B' hB))
   refine ⟨b,o,h1,same b o h2 (fun k hk e=>?_),.inl h3,h4,h5⟩
   obtain ⟨-,o',k1,k2⟩:=hr k hk
   subst e
   rw [h2] at k1;simp at k1;subst k1
   obtain ⟨xs,fr,rfl,-⟩:=h3
   cases k2
 . have h1:=hF b o ho
   have h2:=(hr k hk).1
   omega
def setAll:List AV->List Tmp->List AV->List AV
 | tm,p :: ps,e :: es=>setAll (tm.set p e) ps es
 | tm,_,_=>tm
theorem setAll_ok {ρ:Ren}:∀ {ps:List Tmp} {es:List AV} {vs:List Value} {tm:List AV} {ts:Array Value},Rvs ρ tm ts.toList->Rvs ρ es vs ->
 Rvs ρ (setAll tm ps es) ((ps.zip vs).foldl (fun t p=>t.setIfInBounds p.1 p.2) ts).toList
 | [],es,vs,tm,ts,h,_=>by
  have e:setAll tm [] es=tm:=by cases es <;> rfl
  rw [e];simpa using h
 | p :: ps,[],vs,tm,ts,h,k=>by
  have e:=k.unnil
  . cases vs with
    | nil=>simpa [setAll] using h
    | cons v vs=>have:=k.1;simp at this
 | p :: ps,e :: es,vs,tm,ts,h,k=>by
  obtain ⟨v,us,rfl,hv,hk⟩:=k.uncons
  simp only [setAll,List.zip_cons_cons,List.foldl_cons]
  refine setAll_ok ?_ hk
  have:=h.set hv p
  simpa using this
theorem foldl_zip (ps:Array Tmp) (vs ts:Array Value):(ps.zip vs).foldl (fun t (p,v)=>t.setIfInBounds p v) ts=(ps.toList.zip vs.toList).foldl (fun t p=>t.setIfInBounds p.1 p.2) ts:=by
 rw [<- Array.foldl_toList,Array.toList_zip]
theorem rangeAt_sim {P:Program} {E:Env} (hE:EnvOk P E) (hm:P.follows .mixedOrders=true) {lf n1 N:Nat} {g:Operand} {ps:Array Tmp} {asg bd:Code} {gf:Nat}
 (pa:inRd asg=true) (pb:inRd bd=true) (oa:codeOk E asg=true) (ob:codeOk E bd=true)
 {tm:List AV} {st:Nat->AH} {es:Nat->List AV} {ya:Nat->XS}
 (hst:∀ k,cellsH (st k)) (hlt:∀ k id B,(st k).get id=some B->id < n1) (hya:∀ k,k < N->cellsH (ya k).s.h)
 (ra:∀ k,k < N->(exec P E [] (fun _=>none) lf asg ⟨⟨setAll tm ps.toList (es k),st k,true⟩,n1⟩).holds (fun r=>r=(.normal,ya k)))
 (rb:∀ k,k < N->(exec P E [] (fun _=>none) lf bd (ya k)).holds (fun r=>r.1=.normal /\ ∀ id B,(st (k+1)).get id=some B->r.2.s.h.get id=some B /\ allLt n1 B.cs=true))
 {F:Fr} {ds:List Deferred} {ρ1:Ren} {a:Act} {w:World} (hs:Sim F ds ρ1 ⟨tm,st 0,true⟩ a w) (hfr:∀ id,n1 <= id->ρ1 id=none)
 {lb:Array Value} (hg:a.eval g=.func (.func gf) #[] lb) (eg:∀ args w,(callFunc gf args).run P w=.ok (.enter gf args) w)
 {encs:Nat->Array Value} {Lies:World->Prop} (hsz:∀ k,k < N->(encs k).size=ps.size) (henc:∀ k,k < N->Rvs ρ1 (es k) (encs k).toList)
 (hseq:SeqAt Fence.wide 2 P gf lb encs Lies N)
 (hlies:∀ k ρ' W,RW F ρ' (st k) W->(∀ id,id < n1->Ren.eqAt ρ' ρ1 id)->Lies W)
 {Q:Exit->Act->World->Prop}
 (hQ:∀ D W ρ',w.heap.size <= D->W.heap[D]?=some (.deferred (some []))->RW F ρ' (st N) W->(∀ id,id < n1->Ren.eqAt ρ' ρ1 id)->(∀ id,n1 <= id->ρ' id=none)->Q .normal { a with defers:={ target:=.collected D,args:=#[] } :: a.defers } W) :
 (Code.rangeFunc g ps asg bd).wpIn Fence.wide 3 P Q a w:=by
 have hFB:∀ b o,F.blocks b=some o->b < w.heap.size:=fun b o ho=>(Array.getElem?_eq_some_iff.1 (hs.h.fr b o ho)).1
 have hle:∀ ρ',(∀ id,id < n1->Ren.eqAt ρ' ρ1 id)->ρ1.le ρ':=fun ρ' h id b e=>by
  have hid:id < n1:=by
   rcases Nat.lt_or_ge id n1 with h1 | h1
   . exact h1
   . rw [hfr id h1] at e;cases e
  exact ⟨(h id hid).f.trans e,(h id hid).cells b e⟩
 refine wpIn_rangeAt (F:=Fence.wide) (n:=3) rfl (by omega) hg trivial eg hseq hsz
  (fun k W=>∃ ρ',RW F ρ' (st k) W /\ (∀ id,id < n1->Ren.eqAt ρ' ρ1 id) /\ (∀ id,n1 <= id->ρ' id=none))
  (fun k W W' row ⟨ρ',r,e1,e2⟩ hgr hrow=>⟨ρ',r.grown (hst k) hFB hgr hrow,e1,e2⟩)
  (fun k W ⟨ρ',r,e1,_⟩=>hlies k ρ' W r e1)
  ⟨ρ1,hs.h,fun id _=>Ren.eqAt.refl ρ1 id,hfr⟩
  (fun k a1 W=>∃ ρ',Sim F [] ρ' (ya k).s a1 W /\ n1 <= (ya k).n /\ (∀ id,(ya k).n <= id->ρ' id=none) /\ (∀ id,id < n1->Ren.eqAt ρ' ρ1 id) /\ k < N)
  (fun s W W' row ⟨ρ',r,e1,e2,e3,hk⟩ hgr hrow=>⟨ρ',⟨r.tm,r.h.grown (hya s.1 hk) hFB hgr hrow,r.ds⟩,e1,e2,e3,hk⟩)
  (fun l k W hI hk=>?_) (fun l k a1 W hM hk=>?_) (fun D W hD ⟨ρ',r,e1,e2⟩ hd=>hQ D W ρ' hD hd r e1 e2)
 . obtain ⟨ρ',r,e1,e2⟩:=hI
   have hsim:Sim (frz ρ' (st k) W) [] ρ' ⟨setAll tm ps.toList (es k),st k,true⟩ { tmps:=(ps.zip (encs k)).foldl (fun t (p,v)=>t.setIfInBounds p v) a.tmps,defers:=[] } W:=by
    refine ⟨?_,r.frz,rfl⟩
    rw [foldl_zip]
    exact setAll_ok (hs.tm.mono (hle ρ' e1)) ((henc k hk).mono (hle ρ' e1))
   refine wpIn_mono (exec_round hE hm (m:=n1) asg _ (fun e y=>(e,y)=(.normal,ya k)) pa oa (ra k hk) ρ' _ W hsim (Nat.le_refl _) e2) ?_
   rintro e a' w' ⟨e',y,ρ2,hk2,he,hs2,hm2,hf2,hp2⟩
   simp only [Prod.mk.injEq] at hk2
   obtain ⟨rfl,rfl⟩:=hk2
   cases e <;> simp only [AExit.is] at he
   exact ⟨frz_keeps r (hst k) hs2.h _,ρ2,⟨hs2.tm,hs2.h.weaken r.frz_le r.gc,hs2.ds⟩,hm2,hf2,fun id hid=>(hp2 id hid).trans (e1 id hid),hk⟩
 . obtain ⟨ρ',s,hn,hf,he,_⟩:=hM
   have hsim:Sim (frz ρ' (ya k).s.h W) [] ρ' (ya k).s a1 W:=⟨s.tm,s.h.frz,s.ds⟩
   refine wpIn_mono (exec_round hE hm (m:=n1) bd (ya k) (fun e y=>e=.normal /\ ∀ id B,(st (k+1)).get id=some B->y.s.h.get id=some B /\ allLt n1 B.cs=true) pb ob (rb k hk) ρ' a1 W hsim hn hf) ?_
   rintro e a' w' ⟨e',y,ρ2,⟨rfl,hnext⟩,he',hs2,hm2,hf2,hp2⟩
   cases e <;> simp only [AExit.is] at he'
   have r2:=hs2.h.weaken s.h.frz_le s.h.gc
   refine ⟨frz_keeps s.h (hya k hk) hs2.h _,ρ2.cut n1,⟨fun id B hB=>?_,fun id id' B B' b hB hB' hw hb hb'=>?_,r2.fr,r2.os,r2.tape,r2.out,r2.gc⟩,fun id hid=>?_,fun id hid=>Ren.cut_ge hid⟩
   . obtain ⟨g1,g2⟩:=hnext id B hB
     obtain ⟨b,o,h1,h2,h3,h4⟩:=r2.blk id B g1
     have hid:=hlt (k+1) id B hB
     exact ⟨b,o,by rw [Ren.cut_lt hid];exact h1,h2,h3.keep rfl (fun hh=>hh) rfl rfl (fun a' ha x' hx=>hx.lt (allLt_spec g2 a' ha)),h4⟩
   . rw [Ren.cut_lt (hlt (k+1) id B hB)] at hb
     rw [Ren.cut_lt (hlt (k+1) id' B' hB')] at hb'
     exact r2.inj id id' B B' b (hnext id B hB).1 (hnext id' B' hB').1 hw hb hb'
   . have h1:=(hp2 id hid).trans (he id hid)
     exact ⟨(Ren.cut_lt hid).trans h1.f,h1.cells⟩
def Fr.more (F:Fr) (D:Nat) (o:Obj):Fr:=⟨fun b=>if b=D then some o else F.blocks b,F.os,F.tape,F.out⟩
theorem RW.le_more {F:Fr} {ρ:Ren} {h:AH} {w:World} (r:RW F ρ h w) {D:Nat} {o:Obj} (hD:w.heap[D]?=some o):F.le (F.more D o):=by
 refine ⟨fun b q hb=>?_,rfl,rfl,rfl⟩
 show (if b=D then some o else F.blocks b)=some q
 by_cases e:b=D
 . subst e
   rw [if_pos rfl,<- r.fr b q hb,hD]
 . rw [if_neg e];exact hb
theorem RW.more {F:Fr} {ρ:Ren} {h:AH} {w:World} (r:RW F ρ h w) (hc:cellsH h) {D:Nat} {o:Obj} (hD:w.heap[D]?=some o) (ho:o.isCells=false):RW (F.more D o) ρ h w:=by
 refine ⟨fun id B hB=>?_,r.inj,fun b q hb=>?_,r.os,r.tape,r.out,?_⟩
 . obtain ⟨b,q,h1,h2,h3,h4,h5⟩:=r.blkC (getC_mk hB (hc id B hB))
   refine ⟨b,q,h1,h2,.inl h3,fun hw=>?_,h5⟩
   show (if b=D then some o else F.blocks b)=none
   rw [if_neg,h4 hw]
   rintro rfl
   rw [hD] at h2;simp at h2;subst h2
   obtain ⟨xs,fr,rfl,-⟩:=h3
   cases ho
 . have hb:(if b=D then some o else F.blocks b)=some q:=hb
   by_cases e:b=D
   . subst e;rw [if_pos rfl] at hb;rw [hD];exact hb
   . rw [if_neg e] at hb;exact r.fr b q hb
 . intro g cs hg
   obtain ⟨xs,ty,fr,k1,k2⟩:=r.gc g cs hg
   exact ⟨xs,ty,fr,(r.le_more hD).blocks _ _ k1,k2⟩
theorem RW.shut {F:Fr} {ρ:Ren} {h:AH} {w:World} (r:RW F ρ h w) (hc:cellsH h) {D:Nat} {o o':Obj} (hD:w.heap[D]?=some o) (ho:o.isCells=false) (hF:∀ b q,F.blocks b=some q->b < D):RW F ρ h (w.putObj D o') :=
 r.grown hc hF (grownBy_putObj' w D o') (fun k hk=>by cases hk;exact ⟨Nat.le_refl _,o,hD,ho⟩)
theorem range_calls {P:Program} {E:Env} (hE:EnvOk P E) (hm:P.follows .mixedOrders=true) {lf f:Nat} {fn:Func} {ca cb cc cd:Code} {id:Nat} {g:Operand} {ps:Array Tmp} {asg bd:Code} {gf N:Nat}
 (hf:P.funcs.toList[f]?=some fn) (hb:fn.body=some (.seq ca (.seq cb (.seq (.seq cc (.block id (.rangeFunc g ps asg bd))) cd))))
 (o1:codeOk E ca=true) (o2:codeOk E cb=true) (o3:codeOk E cc=true) (o4:codeOk E cd=true) (pa:inRd asg=true) (pb:inRd bd=true) (oa:codeOk E asg=true) (ob:codeOk E bd=true)
 {args:List AV} {h0:AH} {n0:Nat} {xa xb xc:XS} {tm:List AV} {n1:Nat} {st:Nat->AH} {es:Nat->List AV} {ya:Nat->XS} {rv:Value}
 (ea:(exec P E [] (fun _=>none) lf ca ⟨⟨args ++ undefs (fn.ntmps - args.length),h0,true⟩,n0⟩).holds (fun r=>r=(.normal,xa)))
 (eb:(exec P E [] (fun _=>none) lf cb xa).holds (fun r=>r=(.normal,xb)))
 (ec:(exec P E [] (fun _=>none) lf cc xb).holds (fun r=>r=(.normal,xc))) (ec1:xc.s.tm=tm) (ec2:xc.n=n1) (ec3:∀ id B,(st 0).get id=some B->xc.s.h.get id=some B)
 (hst:∀ k,cellsH (st k)) (hlt:∀ k id B,(st k).get id=some B->id < n1) (hya:∀ k,k < N->cellsH (ya k).s.h)
 (ra:∀ k,k < N->(exec P E [] (fun _=>none) lf asg ⟨⟨setAll tm ps.toList (es k),st k,true⟩,n1⟩).holds (fun r=>r=(.normal,ya k)))
 (rb:∀ k,k < N->(exec P E [] (fun _=>none) lf bd (ya k)).holds (fun r=>r.1=.normal /\ ∀ id B,(st (k+1)).get id=some B->r.2.s.h.get id=some B /\ allLt n1 B.cs=true))
 (ed:(exec P E [] (fun _=>none) lf cd ⟨⟨tm,st N,true⟩,n1⟩).holds (fun r=>(r.1=.ret \/ r.1=.normal) /\ cellsH r.2.s.h /\ ∃ l,resAll P r.2.s.tm r.2.s.h fn.results.toList=some l /\ flat (one1 l)=some rv))
 {F:Fr} {ρ0:Ren} {xs:List Value} {w:World} (hx:Rvs ρ0 args xs) (hw:RW F ρ0 h0 w) (hn:∀ id,n0 <= id->ρ0 id=none)
 (eg:∀ args w,(callFunc gf args).run P w=.ok (.enter gf args) w)
 (hit:∀ ρ1 a w1,Sim F [] ρ1 ⟨tm,st 0,true⟩ a w1->(∀ id,id < n0->Ren.eqAt ρ1 ρ0 id)->∃ (lb:Array Value) (encs:Nat->Array Value) (Lies:World->Prop),
  a.eval g=.func (.func gf) #[] lb /\ (∀ k,k < N->(encs k).size=ps.size) /\ (∀ k,k < N->Rvs ρ1 (es k) (encs k).toList) /\ SeqAt Fence.wide 2 P gf lb encs Lies N /\
  (∀ k ρ' W,RW F ρ' (st k) W->(∀ id,id < n1->Ren.eqAt ρ' ρ1 id)->Lies W)) :
 Calls P f xs.toArray w (fun e w'=>∃ ρ' h',e=.returned rv /\ RW F ρ' h' w'):=by
 have hf':P.funcs[f]?=some fn:=by simpa using hf
 refine callsIn_wide.1 (callsIn_of_wp_marks (F:=Fence.wide) (n:=3) hf' hb trivial ?_ rfl)
 have hlen:=hx.1
 have hs:Sim F [] ρ0 ⟨args ++ undefs (fn.ntmps - args.length),h0,true⟩ { tmps:=xs.toArray ++ Array.replicate (fn.ntmps - xs.toArray.size) undef,defers:=[] } w:=by
  refine ⟨?_,hw,rfl⟩
  have:=hx.append (undefs_eq (ρ:=ρ0) (fn.ntmps - args.length))
  simpa [hlen] using this
 have one:∀ {c:Code} {x y:XS} {ρ:Ren} {a:Act} {w:World} {Q:Exit->Act->World->Prop},codeOk E c=true->(exec P E [] (fun _=>none) lf c x).holds (fun r=>r=(.normal,y))->Sim F [] ρ x.s a w->n0 <= x.n->(∀ id,x.n <= id->ρ id=none) ->
  (∀ id,id < n0->Ren.eqAt ρ ρ0 id)->(∀ ρ' a' w',Sim F [] ρ' y.s a' w'->n0 <= y.n->(∀ id,y.n <= id->ρ' id=none)->(∀ id,id < n0->Ren.eqAt ρ' ρ0 id)->Q .normal a' w')->c.wpIn Fence.wide 3 P Q a w:=by
  intro c x y ρ a w Q hok he hs hn hf hp hQ
  refine wpIn_mono (wpIn_wide.2 (exec_sound hE hm (m:=n0) c x (fun e z=>(e,z)=(.normal,y)) hok (tabOk_none _) he ρ a w hs hn hf)) ?_
  rintro e a' w' ⟨e',z,ρ',hk,he',hs',hn',hf',hp'⟩
  simp only [Prod.mk.injEq] at hk
  obtain ⟨rfl,rfl⟩:=hk
  cases e <;> simp only [AExit.is] at he'
  exact hQ ρ' a' w' hs' hn' hf' (fun id hid=>(hp' id hid).trans (hp id hid))
 refine wpIn_seq (one o1 ea hs (Nat.le_refl _) hn (fun id _=>Ren.eqAt.refl ρ0 id) fun ρ1 a1 w1 s1 n1' f1 p1=>?_)
 refine wpIn_seq (one o2 eb s1 n1' f1 p1 fun ρ2 a2 w2 s2 n2 f2 p2=>?_)
 refine wpIn_seq (wpIn_seq (one o3 ec s2 n2 f2 p2 fun ρ3 a3 w3 s3' n3 f3 p3=>?_))
 have s3:Sim F [] ρ3 ⟨tm,st 0,true⟩ a3 w3:=⟨by rw [<- ec1];exact s3'.tm,s3'.h.sub ec3,s3'.ds⟩
 rw [ec2] at n3 f3
 obtain ⟨lb,encs,Lies,q1,q2,q3,q4,q5⟩:=hit ρ3 a3 w3 s3 p3
 refine wpIn_block (rangeAt_sim hE hm pa pb oa ob hst hlt hya ra rb s3 f3 q1 eg q2 q3 q4 q5 fun D W ρ4 hD hd r4 e4 f4=>?_)
 have hle:ρ3.le ρ4:=fun id b e=>by
  have hid:id < n1:=by
   rcases Nat.lt_or_ge id n1 with h1 | h1
   . exact h1
   . have:ρ3 id=none:=f3 id h1
     rw [this] at e;cases e
  exact ⟨(e4 id hid).f.trans e,(e4 id hid).cells b e⟩
 have s4:Sim (F.more D (.deferred (some []))) [{ target:=.collected D,args:=#[] }] ρ4 ⟨tm,st N,true⟩ { a3 with defers:={ target:=.collected D,args:=#[] } :: a3.defers } W :=
  ⟨s3.tm.mono hle,r4.more (hst N) hd rfl,by simp [s3.ds]⟩
 refine wpIn_mono (wpIn_wide.2 (exec_sound hE hm (m:=n1) cd ⟨⟨tm,st N,true⟩,n1⟩ (fun e y=>(e=.ret \/ e=.normal) /\ cellsH y.s.h /\ ∃ l,resAll P y.s.tm y.s.h fn.results.toList=some l /\ flat (one1 l)=some rv) o4 (tabOk_none _) ed ρ4 _ W s4 (Nat.le_refl _) f4)) ?_
 rintro e a' w' ⟨e',y,ρ5,⟨hk,hcells,l,hl,hflat⟩,he',s5,n5,f5,p5⟩
 have hFD:∀ b q,F.blocks b=some q->b < D:=fun b q hq=>Nat.lt_of_lt_of_le (Array.getElem?_eq_some_iff.1 (s3.h.fr b q hq)).1 hD
 have hd5:w'.heap[D]?=some (.deferred (some [])):=s5.h.fr D _ (if_pos rfl)
 have r5:RW F ρ5 y.s.h w':=s5.h.weaken (r4.le_more hd) r4.gc
 have r6:RW F ρ5 y.s.h (w'.putObj D (.deferred none)):=r5.shut hcells hd5 rfl hFD
 have s6:Sim F [{ target:=.collected D,args:=#[] }] ρ5 y.s a' (w'.putObj D (.deferred none)):=⟨s5.tm,r6,s5.ds⟩
 have fin:LeavesInM Fence.wide 3 P fn a'.tmps (fun e w'=>∃ ρ' h',e=.returned rv /\ RW F ρ' h' w') a'.defers .returning w':=by
  rw [s5.ds]
  refine ⟨by simp,.inl ⟨D,_,rfl,run_takeDeferred hd5,?_⟩⟩
  obtain ⟨vs,h1,h2⟩:=results_run s6 hl
  have hres:(results fn a'.tmps).run P (w'.putObj D (.deferred none))=.ok (if h:vs.toArray.size=1 then vs.toArray[0] else .tuple vs.toArray) (w'.putObj D (.deferred none)):=by
   unfold results
   simp only [Sem.run_bind]
   rw [Array.mapM_eq_mapM_toList]
   simp only [Sem.run_map]
   have e1:(fn.results.toList.mapM (fun (x:ResultVar)=>(match x with
    | .tmp t=>pure (a'.tmps.getD t undef)
    | .cell a t=>do loadVar t (<- asAddr (a'.tmps.getD a undef)):Sem Value))).run P (w'.putObj D (.deferred none))=.ok vs (w'.putObj D (.deferred none)):=h1
   erw [e1]
   simp only [Result.andThen_ok,Sem.run_pure]
  refine ⟨_,hres,ρ5,y.s.h,?_,r6⟩
  have:=(one1_ok h2).flat_eq hflat
  rw [this]
 rcases hk with rfl | rfl
 . cases e <;> simp only [AExit.is] at he'
   exact fin
 . cases e <;> simp only [AExit.is] at he'
   exact fin
end Go.Rq

namespace Go.Rq
open Go
def CC.iso {α β:Type} (c:CC α) (f:α->β) (g:β->α) (h:∀ a,g (f a)=a):CC β where
 n:=c.n
 enc b:=c.enc (g b)
 dec l:=match c.dec l with
  | some a=>some (f a)
  | none=>none
 val b:=c.val (g b)
 len b:=c.len _
 h1 b:=c.h1 _
 h2 ρ as vs x e r:=by
  split at e
  . rename_i a ha
    simp at e;subst e
    rw [h]
    exact c.h2 ρ as vs a ha r
  . cases e
def fnIs (f:FuncId):AV->Bool
 | .fn (.func g) [] []=>Nat.beq g f
 | _=>false
def cFn (f:FuncId):CC Unit where
 n:=1
 enc _:=[.fn (.func f) [] []]
 dec l:=match l with
  | [a]=>bif fnIs f a then some () else none
  | _=>none
 val _:=[.func (.func f) #[] #[]]
 len _:=rfl
 h1 _:=rfl
 h2 ρ as vs x e r:=by
  split at e
  . rename_i a
    unfold fnIs at e
    split at e
    . rename_i g
      cases hb:Nat.beq g f with
      | false=>rw [hb] at e;simp at e
      | true =>
       obtain rfl:=Nat.eq_of_beq_eq_true hb
       obtain ⟨v,ys,rfl,h1,h2⟩:=r.uncons
       rw [h2.unnil,h1.scal_eq (y:=.func (.func g) #[] #[]) rfl]
    . simp at e
  . cases e
structure Fl (K:Type) where
 one:K
 b:K
structure Jp (K:Type) where
 x:K
 y:K
 z:K
structure Ap (K:Type) where
 x:K
 y:K
 zero:Bool
def cFl {K:Type} (f1 f2 f3 f4:FuncId) (c:CC K):CC (Fl K) :=
 (CC.prod (cFn f1) (CC.prod (cFn f2) (CC.prod (cFn f3) (CC.prod (cFn f4) (CC.prod c c))))).iso (fun x=>⟨x.2.2.2.2.1,x.2.2.2.2.2⟩) (fun y=>((),(),(),(),y.one,y.b)) (fun _=>rfl)
def cJp {K:Type} (c:CC K):CC (Jp K):=(CC.prod c (CC.prod c c)).iso (fun x=>⟨x.1,x.2.1,x.2.2⟩) (fun y=>(y.x,y.y,y.z)) (fun _=>rfl)
def cAp {K:Type} (c:CC K):CC (Ap K):=(CC.prod c (CC.prod c cBool)).iso (fun x=>⟨x.1,x.2.1,x.2.2⟩) (fun y=>(y.x,y.y,y.zero)) (fun _=>rfl)
section
variable {K:Type} (o:FO K)
def raiseJ (f:Fl K) (p:Ap K):Jp K:=bif p.zero then ⟨f.one,f.one,o.zero⟩ else ⟨p.x,p.y,f.one⟩
def twiceJ (p:Jp K):Jp K :=
 let yy:=o.mul p.y p.y
 let s1:=o.mul p.x yy
 let s2:=o.add s1 s1
 let s:=o.add s2 s2
 let m1:=o.mul p.x p.x
 let m:=o.add (o.add m1 m1) m1
 let x:=o.sub (o.mul m m) (o.add s s)
 let e0:=o.mul yy yy
 let e1:=o.add e0 e0
 let e2:=o.add e1 e1
 let e:=o.add e2 e2
 let z:=o.mul p.y p.z
 ⟨x,o.sub (o.mul m (o.sub s x)) e,o.add z z⟩
def lowerJ (p:Jp K):Ap K :=
 let i:=o.inv p.z
 let s:=o.mul i i
 ⟨o.mul p.x s,o.mul p.y (o.mul s i),false⟩
def sumJ (p q:Jp K):Jp K :=
 let pp:=o.mul p.z p.z
 let qq:=o.mul q.z q.z
 let u:=o.mul p.x qq
 let v:=o.mul q.x pp
 let s:=o.mul p.y (o.mul qq q.z)
 let t:=o.mul q.y (o.mul pp p.z)
 let h:=o.sub v u
 let r:=o.sub t s
 let hh:=o.mul h h
 let hhh:=o.mul hh h
 let w:=o.mul u hh
 let x:=o.sub (o.sub (o.mul r r) hhh) (o.add w w)
 ⟨x,o.sub (o.mul r (o.sub w x)) (o.mul s hhh),o.mul h (o.mul p.z q.z)⟩
def hJ (p q:Jp K):K:=o.sub (o.mul q.x (o.mul p.z p.z)) (o.mul p.x (o.mul q.z q.z))
def rJ (p q:Jp K):K:=o.sub (o.mul q.y (o.mul (o.mul p.z p.z) p.z)) (o.mul p.y (o.mul (o.mul q.z q.z) q.z))
end
def eqW (a b:W6):Bool:=(a.w0 == b.w0) && ((a.w1 == b.w1) && ((a.w2 == b.w2) && ((a.w3 == b.w3) && ((a.w4 == b.w4) && ((a.w5 == b.w5) && true)))))
def eqD (a b:D6):Bool:=(a.a.w0 == b.a.w0) && ((a.a.w1 == b.a.w1) && ((a.a.w2 == b.a.w2) && ((a.a.w3 == b.a.w3) && ((a.a.w4 == b.a.w4) && ((a.a.w5 == b.a.w5) &&
 ((a.b.w0 == b.b.w0) && ((a.b.w1 == b.b.w1) && ((a.b.w2 == b.b.w2) && ((a.b.w3 == b.b.w3) && ((a.b.w4 == b.b.w4) && ((a.b.w5 == b.b.w5) && true)))))))))))
theorem givesOf {t u:Tree AV} {v:Value} (h:t.strict=u) (hu:u.holds (fun q=>flat q=some v)):Gives t v:=⟨Tree.holds_strict (by rw [h];exact hu)⟩
theorem holds_leaf {a:AV} {v:Value} (h:flat a=some v):(Tree.leaf a).holds (fun q=>flat q=some v):=h
theorem holds_br {β:Type} {B:Cod β} {x y:β} {c:Bool} {t f:Tree AV} (h1:t.holds (fun q=>flat q=some (B.val x))) (h2:f.holds (fun q=>flat q=some (B.val y))) :
 (Tree.br c t f).holds (fun q=>flat q=some (B.val (bif c then x else y))) :=
 ⟨fun h=>by rw [h];exact h1,fun h=>by rw [h];exact h2⟩
section
variable {K:Type} (o:FO K) (eq:K->K->Bool)
def lowerE (p:Jp K):Ap K:=bif eq p.z o.zero then ⟨o.zero,o.zero,true⟩ else lowerJ o p
def onE (f:Fl K) (p:Ap K):Bool:=bif p.zero then (bif eq p.x o.zero then eq p.y o.zero else false) else eq (o.mul p.y p.y) (o.add (o.mul (o.mul p.x p.x) p.x) f.b)
def negE (p:Ap K):Ap K:=⟨p.x,o.sub o.zero p.y,p.zero⟩
def sumE (f:Fl K) (p q:Jp K):Jp K:=bif eq p.z o.zero then q else bif eq q.z o.zero then p else
 bif eq (hJ o p q) o.zero then (bif eq (rJ o p q) o.zero then twiceJ o p else ⟨f.one,f.one,o.zero⟩) else sumJ o p q
end
theorem apFlatW (x y:W6) (b:Bool):flat (.agg (c6.enc x ++ (c6.enc y ++ [.lit b])))=some ((cAp c6).agg.val ⟨x,y,b⟩):=by kernel_rfl
theorem pure3X {P:Program} {f:Nat} {α β γ δ:Type} {A:Cod α} {B:Cod β} {C:Cod γ} {D:Cod δ} {F:α->γ->δ->β} (h:∀ x y z,GivesX P f [A.enc x,C.enc y,D.enc z] (B.val (F x y z))):PureOk P f (fn3 A C D B F):=by
 refine pure_coreX fun as r hg=>?_
 unfold fn3 at hg
 split at hg
 . rename_i a c d
   split at hg
   . rename_i x y z hx hy hz
     simp at hg;subst hg
     refine ⟨[A.enc x,C.enc y,D.enc z],[A.val x,C.val y,D.val z],fun ρ xs hxs=>?_,by simp [flatL,A.h1,C.h1,D.h1],_,B.h1 _,h x y z⟩
     obtain ⟨v,ys,rfl,h1,h2⟩:=hxs.uncons
     obtain ⟨u,zs,rfl,h3,h4⟩:=h2.uncons
     obtain ⟨w,us,rfl,h5,h6⟩:=h4.uncons
     rw [h6.unnil,A.h2 ρ _ _ _ hx h1,C.h2 ρ _ _ _ hy h3,D.h2 ρ _ _ _ hz h5]
   . cases hg
 . cases hg
end Go.Rq

namespace Go.Rq
open Go
def sqB {A:Type} (tw su:A->A) (bc:Int->Bool):Nat->A->A
 | 0,u=>u
 | k+1,u=>sqB tw su bc k (bif bc (k:Int) then su (tw u) else tw u)
theorem sqB_law {A:Type} {top:Int} (htop:top < 9223372036854775808) (tw su:A->A) (bc:Int->Bool) (nd:Int->Bool) (hnd:∀ z,0 <= z->nd z=true) (rt:XS->Tree (AExit × XS)) (I:Int × A->XS) {l:List Nat} (hr:∀ (z:Int) (out:A),Tree.but l 0 (rt (I (z,out))) =
 .br (decide (z >= 0))
  (.br (bc z)
   (.need (nd z) (.leaf (.normal,I (IntKind.i64.wrap (z - 1),su (tw out)))))
   (.need (nd z) (.leaf (.normal,I (IntKind.i64.wrap (z - 1),tw out)))))
  (.leaf (.exit 0,I (z,out)))) {R:A} {Q:AExit->XS->Prop} (hK:Q .normal (I (-1,R))) :
 ∀ d:Int × A,(-1 <= d.1 /\ d.1 <= top /\ sqB tw su bc (d.1+1).toNat d.2=R)->(rt (I d)).holds (fun r=>match r.1 with
  | .normal=>∃ j:Int × A,(-1 <= j.1 /\ j.1 <= top /\ sqB tw su bc (j.1+1).toNat j.2=R) /\ (j.1+1).toNat < (d.1+1).toNat /\ r.2=I j
  | .exit q=>if q=0 then Q .normal r.2 else Q (.exit q) r.2
  | .ret=>Q .ret r.2):=by
 rintro ⟨z,out⟩ ⟨h0,h1,h2⟩
 apply Tree.holds_but (l:=l) (i:=0)
 rw [hr]
 simp only at h0 h1 h2
 refine ⟨fun hz=>?_,fun hz=>?_⟩
 . have hz:0 <= z:=by simpa using hz
   have hn:=hnd z hz
   have hw:IntKind.i64.wrap (z - 1)=z - 1:=wrapI (by omega) (by omega)
   have hk:(z+1).toNat=z.toNat+1:=by omega
   rw [hk] at h2
   simp only [sqB] at h2
   rw [show ((z.toNat:Nat):Int)=z by omega] at h2
   have hk':(z - 1+1).toNat=z.toNat:=by omega
   refine ⟨fun hb=>⟨hn,⟨z - 1,su (tw out)⟩,⟨by simp only;omega,by simp only;omega,?_⟩,?_,?_⟩,fun hb=>⟨hn,⟨z - 1,tw out⟩,⟨by simp only;omega,by simp only;omega,?_⟩,?_,?_⟩⟩
   . rw [hb] at h2
     simp only [hk']
     exact h2
   . show (z - 1+1).toNat < (z+1).toNat
     omega
   . rw [hw]
   . rw [hb] at h2
     simp only [hk']
     exact h2
   . show (z - 1+1).toNat < (z+1).toNat
     omega
   . rw [hw]
 . have hz:z=-1:=by
    have:¬ 0 <= z:=by simpa using hz
    omega
   subst hz
   have h2:out=R:=h2
   show (if (0:Nat)=0 then Q .normal (I (-1,out)) else Q (.exit 0) (I (-1,out)))
   rw [if_pos rfl,h2]
   exact hK
noncomputable def frcU {β:Type} (x:BitVec 64) (f:BitVec 64->β):β:=frcN x.toNat fun n=>f (BitVec.ofNat 64 n)
theorem frcU_eq {β:Type} (x:BitVec 64) (f:BitVec 64->β):frcU x f=f x:=by
 unfold frcU
 rw [frcN_eq,BitVec.ofNat_toNat,BitVec.setWidth_eq]
noncomputable def sqF {A:Type} (frc:A->(A->A)->A) (tw su:A->A) (bc:Int->Bool):Nat->A->A
 | 0,u=>u
 | k+1,u=>frc (tw u) fun v=>bif bc (k:Int) then frc (su v) (sqF frc tw su bc k) else sqF frc tw su bc k v
theorem sqF_eq {A:Type} {frc:A->(A->A)->A} (hf:∀ x f,frc x f=f x) (tw su:A->A) (bc:Int->Bool):∀ (k:Nat) (u:A),sqF frc tw su bc k u=sqB tw su bc k u
 | 0,u=>rfl
 | k+1,u=>by
  simp only [sqF,sqB,hf]
  cases bc (k:Int)
  . simp only [cond_false];exact sqF_eq hf tw su bc k _
  . simp only [cond_true];exact sqF_eq hf tw su bc k _
def bitU (n:BitVec 64) (z:Int):Bool:=((n >>> (Nat.min z.toNat 64)) &&& bitW true) == bitW true
def notNeg (z:Int):Bool:=decide (0 <= z) && true
theorem notNeg_ok (z:Int) (h:0 <= z):notNeg z=true:=by simp [notNeg,h]
end Go.Rq
namespace Go.Rq
open Go
theorem Tri.asU {P:Program} {F:Fr} {ds:List Deferred} {m:Nat} {c:Code} {x:XS} {K:AExit->XS->Prop} {i:Nat} {b:Bool} (hi:x.s.tm[i]?=some (.bit b)) (h:Tri P F ds m c (x.setT i (.u (bitW b))) K):Tri P F ds m c x K:=by
 intro ρ a w hs hm hf
 refine h ρ a w ⟨?_,hs.h,hs.ds⟩ hm hf
 obtain ⟨v,hv,hr⟩:=hs.tm.getD hi
 have h1:Rv ρ (.u (bitW b)) v:=by cases hr;exact .u _
 have h2:=hs.tm.set h1 i
 have h3:a.tmps.toList.set i v=a.tmps.toList:=by
  apply List.ext_getElem?
  intro j
  rw [List.getElem?_set]
  by_cases e:i=j
  . subst e
    rw [if_pos rfl]
    have:=(List.getElem?_eq_some_iff.1 hv).1
    rw [if_pos this,hv]
  . rw [if_neg e]
 rw [h3] at h2
 exact h2
end Go.Rq
namespace Go.Rq
open Go
theorem setH_get (id:Nat) (cs:List AV):∀ (h:AH) (j:Nat),(setH h id cs).get j=if id=j then (match h.get j with
 | some B=>some ⟨B.wr,B.ty,cs⟩
 | none=>none) else h.get j
 | [],j=>by simp [setH,AH.get]
 | (i,b) :: t,j=>by
  simp only [setH]
  cases hb:Nat.beq i id with
  | true =>
   have e:=Nat.eq_of_beq_eq_true hb
   subst e
   rw [cond_true]
   cases b with
   | none =>
    rw [AH.get_cons]
    by_cases h:i=j
    . rw [if_pos h,if_pos h]
    . rw [if_neg h,if_neg h]
   | some B =>
    simp only
    rw [AH.get_cons,AH.get_cons]
    by_cases h:i=j
    . rw [if_pos h,if_pos h,if_pos h]
    . rw [if_neg h,if_neg h,if_neg h]
  | false =>
   have e:i ≠ id:=fun e=>by subst e;rw [Nat.beq_refl] at hb;cases hb
   rw [cond_false,AH.get_cons,setH_get id cs t j,AH.get_cons]
   by_cases h:i=j
   . subst h
     rw [if_pos rfl,if_neg (fun h=>e h.symm),if_pos rfl]
   . rw [if_neg h,if_neg h]
theorem RW.recell {F:Fr} {ρ:Ren} {h:AH} {w:World} (r:RW F ρ h w) {id:Nat} {B:Blk} (hB:h.get id=some B) (hce:B.cell=true) {cs:List AV} (hl:cs.length=B.cs.length) (hc:∀ (i:Nat) (a c:AV) (x:Value),B.cs[i]?=some a->cs[i]?=some c->Rv ρ a x->Rv ρ c x):RW F ρ (setH h id cs) w:=by
 have back:∀ j C,(setH h id cs).get j=some C->∃ C0,h.get j=some C0 /\ C0.wr=C.wr /\ C0.ty=C.ty:=by
  intro j C hj
  rw [setH_get] at hj
  by_cases e:id=j
  . subst e
    rw [if_pos rfl,hB] at hj
    simp at hj;subst hj
    exact ⟨B,hB,rfl,rfl⟩
  . rw [if_neg e] at hj
    exact ⟨C,hj,rfl,rfl⟩
 refine ⟨fun j C hj=>?_,fun j j' C C' b hj hj' hw hb hb'=>?_,r.fr,r.os,r.tape,r.out,r.gc⟩
 . rw [setH_get] at hj
   by_cases e:id=j
   . subst e
     rw [if_pos rfl,hB] at hj
     simp at hj;subst hj
     obtain ⟨b,o,h1,h2,⟨xs,fr,h3,h4,h5,h6⟩,h7,h8⟩:=r.blkC (getC_mk hB hce)
     refine ⟨b,o,h1,h2,.inl ⟨xs,fr,h3,h4,by rw [hl];exact h5,fun i c x hi hx=>?_⟩,h7,h8⟩
     have hlt:i < B.cs.length:=by rw [<- hl];exact (List.getElem?_eq_some_iff.1 hi).1
     exact hc i B.cs[i] c x (List.getElem?_eq_getElem hlt) hi (h6 i _ x (List.getElem?_eq_getElem hlt) hx)
   . rw [if_neg e] at hj
     exact r.blk j C hj
 . obtain ⟨C0,h1,h2,_⟩:=back j C hj
   obtain ⟨C1,h3,h4,_⟩:=back j' C' hj'
   exact r.inj j j' C0 C1 b h1 h3 (by rw [h2];exact hw) hb hb'
theorem Tri.asC {P:Program} {F:Fr} {ds:List Deferred} {m:Nat} {c:Code} {x:XS} {K:AExit->XS->Prop} {id:Nat} {B:Blk} (hB:x.s.h.get id=some B) {cs:List AV} (hl:cs.length=B.cs.length)
 (hc:∀ (ρ:Ren) (i:Nat) (a c:AV) (x:Value),B.cs[i]?=some a->cs[i]?=some c->Rv ρ a x->Rv ρ c x) (h:Tri P F ds m c (x.setB id cs) K) (hce:B.cell=true:=by rfl):Tri P F ds m c x K:=by
 intro ρ a w hs hm hf
 exact h ρ a w ⟨hs.tm,hs.h.recell hB hce hl (hc ρ),hs.ds⟩ hm hf
theorem Rv.other {ρ:Ren} {a c:AV} {x v:Value} (h:Rv ρ a x) (ha:scal a=some v) (hc:scal c=some v):Rv ρ c x:=by
 rw [h.scal_eq ha]
 exact .of_scal hc
end Go.Rq

namespace Go.Rq.Sm
def bl (n:Nat):Nat:=if n=0 then 0 else n.log2+1
theorem bl_spec {n k:Nat}:bl n <= k ↔ n < 2 ^ k:=by
 unfold bl
 split
 . rename_i h;subst h;simp;exact Nat.two_pow_pos k
 . rename_i h;rw [<- Nat.log2_lt h];omega
end Go.Rq.Sm

namespace Go.Rq.Sm
open Go.Rq
inductive Su where
 | lit
 | mid
 deriving DecidableEq
def suP:Su->Nat
 | .lit=>786251
 | .mid=>1152921504606846223
def suB:Su->BitVec 64
 | .lit=>786251#64
 | .mid=>1152921504606846223#64
def suR:Su->BitVec 64
 | .lit=>65521#64
 | .mid=>72057594037927889#64
def suC:Su->BitVec 64
 | .lit=>12#64
 | .mid=>16#64
def suX:Su->BitVec 64
 | .lit=>9723#64
 | .mid=>613740293506734924#64
def suY:Su->BitVec 64
 | .lit=>164643#64
 | .mid=>666621259561003659#64
theorem suB_nat (s:Su):(suB s).toNat=suP s:=by cases s <;> rfl
theorem suP_pos (s:Su):0 < suP s:=by cases s <;> decide
abbrev Lp:Type:=BitVec 64 × BitVec 64 × Bool
abbrev Op2:Type:=Su->BitVec 64->BitVec 64->BitVec 64
abbrev Op1:Type:=Su->BitVec 64->BitVec 64
def lMul (s:Su) (a b:BitVec 64):BitVec 64:=BitVec.ofNat 64 (Nat.mod (Nat.mul a.toNat b.toNat) (suP s))
def lAdd (s:Su) (a b:BitVec 64):BitVec 64:=(a+b) % suB s
def lSub (s:Su) (a b:BitVec 64):BitVec 64:=(a+suB s - b) % suB s
def lrF (s:Su) (x:BitVec 64):BitVec 64:=lAdd s (lMul s (lMul s x x) x) x
def onF (s:Su) (p:Lp):Bool:=bif p.2.2 then (bif p.1 == 0#64 then p.2.1 == 0#64 else false) else
 bif BitVec.ult p.1 (suB s) then (bif BitVec.ult p.2.1 (suB s) then lMul s p.2.1 p.2.1 == lrF s p.1 else false) else false
noncomputable def lPow (s:Su) (a n:BitVec 64):BitVec 64:=sqF frcU (fun u=>lMul s u u) (fun u=>lMul s u a) (bitU n) (bl n.toNat) 1#64
noncomputable def lInv (s:Su) (x:BitVec 64):BitVec 64:=lPow s x (suB s - 2#64)
noncomputable def lSlope (s:Su) (p q:Lp):BitVec 64 × Bool:=bif p.1 != q.1 then (lMul s (lSub s q.2.1 p.2.1) (lInv s (lSub s q.1 p.1)),true) else
 bif p.2.1 != q.2.1 then (0#64,false) else bif p.2.1 == 0#64 then (0#64,false) else
 (lMul s (lAdd s (lAdd s (lAdd s (lMul s p.1 p.1) (lMul s p.1 p.1)) (lMul s p.1 p.1)) 1#64) (lInv s (lAdd s p.2.1 p.2.1)),true)
noncomputable def frcLp {β:Type} (p:Lp) (f:Lp->β):β:=frcU p.1 fun x=>frcU p.2.1 fun y=>frcB p.2.2 fun z=>f (x,y,z)
theorem frcLp_eq {β:Type} (p:Lp) (f:Lp->β):frcLp p f=f p:=by
 unfold frcLp
 rw [frcU_eq,frcU_eq,frcB_eq]
noncomputable def lSum (s:Su) (p q:Lp):Lp:=bif p.2.2 then q else bif q.2.2 then p else frcB (lSlope s p q).2 fun b=>bif !b then (0#64,0#64,true) else
 frcU (lSlope s p q).1 fun m=>frcU (lSub s (lSub s (lMul s m m) p.1) q.1) fun x=>(x,lSub s (lMul s m (lSub s p.1 x)) p.2.1,false)
def lp0:Lp:=(0#64,0#64,true)
noncomputable def lTimes (s:Su) (p:Lp) (n:BitVec 64):Lp:=sqF frcLp (fun u=>lSum s u u) (fun u=>lSum s u p) (bitU n) (bl n.toNat) lp0
noncomputable def inF (s:Su) (p:Lp):Bool:=bif onF s p then (lTimes s p (suR s)).2.2 else false
def rNeg (s:Su) (a:BitVec 64):BitVec 64:=(suB s - a) % suB s
def rSub (s:Su) (a b:BitVec 64):BitVec 64:=lAdd s a (rNeg s b)
end Go.Rq.Sm
