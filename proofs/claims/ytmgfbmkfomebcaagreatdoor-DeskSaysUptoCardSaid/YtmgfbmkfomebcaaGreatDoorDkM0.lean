/- The checksum, lowest bit first and highest bit first: plain arithmetic. -/

set_option linter.unusedVariables false
set_option linter.unusedSimpArgs false
namespace Go.Proofs.YtmgfbmkfomebcaaGreatDoor
def ZM(x:Nat):Nat:=if x%2=1 then x / 2 ^^^ 2197175160 else x / 2
def itP:Nat->Nat->Nat
 |0,x=>x
 |n+1,x=>ZM (itP n x)
def Xx(z b:Nat):Nat:=if(z / 2147483648 ^^^ b)=1 then(z*2%4294967296) ^^^ 517762881 else z*2%4294967296
def itR(c:Nat):Nat->Nat->Nat
 |0,z=>z
 |n+1,z=>Xx (itR c n z) (c / 2^n%2)
theorem x32{a b:Nat}(ha:a<4294967296)(hb:b<4294967296):a ^^^ b<4294967296:=Nat.xor_lt_two_pow (n:=32) ha hb
theorem zd4{x:Nat}(h:x<4294967296):ZM x<4294967296:=by
 unfold ZM
 split
 . exact x32 (by omega) (by omega)
 . omega
theorem zd5(z b:Nat):Xx z b<4294967296:=by
 unfold Xx
 split
 . exact x32 (by omega) (by omega)
 . omega
structure Turned (s z:Nat):Prop where
 s32:s<4294967296
 z32:z<4294967296
 bit:∀t,t<32->s.testBit t=z.testBit (31-t)
theorem zcF:∀t:Fin 32,(2197175160:Nat).testBit t.val=(517762881:Nat).testBit (31-t.val):=by decide
theorem KS(x t:Nat):(x / 2).testBit t=x.testBit (t+1):=by rw[Nat.testBit_succ]
theorem zd6(z t:Nat)(h:t<32):(z*2%4294967296).testBit t=(decide (1<=t)&&z.testBit (t-1)):=by
 rw[show(4294967296:Nat)=2^32 from rfl,Nat.testBit_mod_two_pow,Nat.mul_comm,show 2*z=2^1*z from rfl,Nat.testBit_two_pow_mul];simp[h]
theorem zff(x:Nat):x.testBit 0=decide (x%2=1):=Nat.testBit_zero x
theorem zfg{z:Nat}(h:z<4294967296):z / 2147483648=if z.testBit 31 then 1 else 0:=by
 rw[Nat.testBit_eq_decide_div_mod_eq];by_cases h1:z / 2^31%2=1
 . simp[h1];omega
 . simp[h1];omega
theorem zac{s z c:Nat}(hc:c<256)(h:Turned s z):Turned (ZM (s ^^^ c) ^^^ c / 2) (Xx z (c%2)):=by
 have hs:=h.s32;have hz:=h.z32;have h0:=h.bit 0 (by omega);rw[zff]at h0;have hbit:(z / 2147483648 ^^^ c%2)=1↔(s ^^^ c)%2=1:=by
  rw[zfg hz];have e1:(s ^^^ c)%2=(s%2 ^^^ c%2):=Nat.xor_mod_two_pow (n:=1);rw[e1];simp only[Nat.sub_zero]at h0;rw[<-h0];rcases Nat.mod_two_eq_zero_or_one s with h1|h1<;>rcases Nat.mod_two_eq_zero_or_one c with h2|h2<;>simp[h1,h2]
 have hy:s ^^^ c<4294967296:=x32 hs (by omega);refine⟨x32 (zd4 hy) (by omega),zd5 _ _,fun t ht=>?_⟩;have e:(ZM (s ^^^ c) ^^^ c / 2).testBit t=(s.testBit (t+1)^^(decide ((s ^^^ c)%2=1)&&(2197175160:Nat).testBit t)):=by
  rw[Nat.testBit_xor,KS];unfold ZM;by_cases hb:(s ^^^ c)%2=1
  . rw[if_pos hb,Nat.testBit_xor,KS,Nat.testBit_xor];simp[hb];cases s.testBit (t+1)<;>cases c.testBit (t+1)<;>simp
  . rw[if_neg hb,KS,Nat.testBit_xor];simp[hb]
 have e2:(Xx z (c%2)).testBit (31-t)=((decide (1<=31-t)&&z.testBit (31-t-1))^^(decide ((s ^^^ c)%2=1)&&(517762881:Nat).testBit (31-t))):=by
  unfold Xx;by_cases hb:(s ^^^ c)%2=1
  . rw[if_pos (hbit.2 hb),Nat.testBit_xor,zd6 _ _ (by omega)];simp[hb]
  . rw[if_neg (fun h=>hb (hbit.1 h)),zd6 _ _ (by omega)];simp[hb]
 rw[e,e2,zcF ⟨t,ht⟩]
 congr 1
 by_cases ht31:t=31
 . subst ht31;rw[Nat.testBit_lt_two_pow (show s<2^(31+1) from hs)];simp
 . rw[h.bit (t+1) (by omega)];have:31-(t+1)=31-t-1:=by omega
   rw[this];simp;intro _;omega
theorem VY{s z c:Nat}(hc:c<256)(h:Turned s z):∀n,Turned (itP n (s ^^^ c) ^^^ c / 2^n) (itR c n z)
 |0=>by
  simp only[itP,itR,Nat.pow_zero,Nat.div_one,Nat.xor_assoc,Nat.xor_self,Nat.xor_zero];exact h
 |n+1=>by
  have ih:=VY hc h n;have st:=zac (c:=c / 2^n) (Nat.lt_of_le_of_lt (Nat.div_le_self _ _) hc) ih;rw[Nat.xor_assoc,Nat.xor_self,Nat.xor_zero,Nat.div_div_eq_div_mul,<-Nat.pow_succ]at st;exact st
theorem zad{s z c:Nat}(hc:c<256)(h:Turned s z):Turned (itP 8 (s ^^^ c)) (itR c 8 z):=by
 have:=VY hc h 8;rw[Nat.div_eq_of_lt (show c<2^8 from hc),Nat.xor_zero]at this;exact this
theorem zae:Turned 4294967295 4294967295:=⟨by omega,by omega,by
 have H:∀t:Fin 32,(4294967295:Nat).testBit t.val=(4294967295:Nat).testBit (31-t.val):=by decide
 exact fun t ht=>H ⟨t,ht⟩⟩
def zaf(z:Nat):Nat->Nat
 |0=>0
 |i+1=>zaf z i ||| (z / 2^i%2)*2^(31-i)
theorem zag(z:Nat):∀i,i<=32->∀t,(zaf z i).testBit t=(decide (t<32)&&decide (31-t<i)&&z.testBit (31-t))
 |0,_,t=>by simp[zaf]
 |i+1,hi,t=>by
  have hb:((z / 2^i%2)*2^(31-i)).testBit t=(decide (t=31-i)&&z.testBit i):=by
   rw[Nat.testBit_eq_decide_div_mod_eq (x:=z)];rcases Nat.mod_two_eq_zero_or_one (z / 2^i)with h|h
   . simp[h]
   . rw[h,Nat.one_mul,Nat.testBit_two_pow];simp[eq_comm]
  simp only[zaf];rw[Nat.testBit_or,zag z i (by omega) t,hb];by_cases h1:t<32
  . by_cases h2:t=31-i
    . subst h2;have e:31-(31-i)=i:=by omega
      rw[e];have:31-i<32:=by omega
      simp[this]
    . by_cases h3:31-t<i
      . have h4:31-t<i+1:=by omega
        simp[h1,h2,h3,h4]
      . have h4:¬31-t<i+1:=by omega
        simp[h1,h2,h3,h4]
  . have h2:¬t=31-i:=by omega
    simp[h1,h2]
theorem zah{s z:Nat}(h:Turned s z):zaf z 32=s:=by
 apply Nat.eq_of_testBit_eq;intro t;rw[zag z 32 (Nat.le_refl _)];by_cases ht:t<32
 . rw[h.bit t ht];have:31-t<32:=by omega
   simp[ht,this]
 . rw[Nat.testBit_lt_two_pow (Nat.lt_of_lt_of_le h.s32 (Nat.pow_le_pow_right (n:=2) (by omega) (show 32<=t by omega)))];simp[ht]
def Ve(l:List Nat):Nat:=l.foldl (fun x c=>itP 8 (x ^^^ c)) 4294967295
def zai(l:List Nat):Nat:=l.foldl (fun z c=>itR c 8 z) 4294967295
theorem Xy{l:List Nat}(h:∀c∈l,c<256):Turned (Ve l) (zai l):=by
 unfold Ve zai;generalize h0:(4294967295:Nat)=o;have ht:Turned o o:=by rw[<-h0];exact zae
 suffices H:∀(l:List Nat) (x z:Nat),(∀c∈l,c<256)->Turned x z->Turned (l.foldl (fun x c=>itP 8 (x ^^^ c)) x) (l.foldl (fun z c=>itR c 8 z) z) from H l o o h ht
 intro l;induction l with
 |nil=>intro x z _ h;exact h
 |cons c l ih=>
  intro x z hl h;exact ih _ _ (fun a ha=>hl a (by simp[ha])) (zad (hl c (by simp)) h)
theorem zcG(l:List Nat)(c:Nat):Ve (l++[c])=itP 8 (Ve l ^^^ c):=by unfold Ve;rw[List.foldl_append];rfl
theorem zcH(l:List Nat)(c:Nat):zai (l++[c])=itR c 8 (zai l):=by unfold zai;rw[List.foldl_append];rfl
def xt(x:Nat):Nat:=if 255<x*2 then(x*2) ^^^ 285 else x*2
def gm:Nat->Nat->Nat->Nat->Nat
 |0,_,_,o=>o
 |f+1,a,b,o=>gm f (xt a) (b / 2) (if b%2=1 then o ^^^ a else o)
def zI(a b:Nat):Nat:=gm 8 a b 0
theorem qu{a b:Nat}(ha:a<256)(hb:b<256):a ^^^ b<256:=Nat.xor_lt_two_pow (n:=8) ha hb
theorem Vs{x:Nat}(h:x<256):xt x<256:=by
 unfold xt
 split
 . rename_i h1;have:(x*2 ^^^ 285)<512:=Nat.xor_lt_two_pow (n:=9) (by omega) (by omega);have h8:(x*2 ^^^ 285).testBit 8=false:=by
    rw[Nat.testBit_xor];have e1:(x*2).testBit 8=true:=by
     rw[Nat.testBit_eq_decide_div_mod_eq];simp;omega
    rw[e1];decide
   rw[Nat.testBit_eq_decide_div_mod_eq]at h8;simp at h8;omega
 . omega
theorem zfA{x:Nat}(h:x<256):(255<x*2)↔x.testBit 7=true:=by
 rw[Nat.testBit_eq_decide_div_mod_eq];simp;omega
theorem zem(x y:Nat):(x ^^^ y)*2=x*2 ^^^ y*2:=by
 have h:∀z:Nat,z*2=z <<< 1:=fun z=>by rw[Nat.shiftLeft_eq]
 rw[h,h,h,Nat.shiftLeft_xor_distrib]
theorem zbS(a b c d:Nat):(a ^^^ b) ^^^ (c ^^^ d)=(a ^^^ c) ^^^ (b ^^^ d):=by
 rw[Nat.xor_assoc,Nat.xor_assoc];congr 1;rw[<-Nat.xor_assoc,<-Nat.xor_assoc,Nat.xor_comm b c]
theorem zda{x:Nat}(h:x<256):xt x=if x.testBit 7=true then x*2 ^^^ 285 else x*2:=by
 unfold xt;simp only[zfA h]
theorem zfB{x y:Nat}(hx:x<256)(hy:y<256):xt (x ^^^ y)=xt x ^^^ xt y:=by
 rw[zda hx,zda hy,zda (qu hx hy),Nat.testBit_xor,zem];generalize x*2=X;generalize y*2=Y;cases x.testBit 7<;>cases y.testBit 7<;>simp
 . rw[Nat.xor_assoc]
 . rw[Nat.xor_assoc,Nat.xor_assoc,Nat.xor_comm 285]
 . rw[zbS,Nat.xor_self,Nat.xor_zero]
theorem zfR(f a b o:Nat)(ha:a<256)(ho:o<256):gm f a b o<256:=by
 induction f generalizing a b o with
 |zero=>exact ho
 |succ f ih=>
  simp only[gm];refine ih _ _ _ (Vs ha) ?_
  split
  . exact qu ho ha
  . exact ho
theorem yL{a b:Nat}(ha:a<256):zI a b<256:=zfR 8 a b 0 ha (by omega)
theorem zen(f a a' b o o':Nat)(ha:a<256)(ha':a'<256):gm f (a ^^^ a') b (o ^^^ o')=gm f a b o ^^^ gm f a' b o':=by
 induction f generalizing a a' b o o' with
 |zero=>rfl
 |succ f ih=>
  simp only[gm];rw[zfB ha ha']
  split
  . rw[zbS,ih _ _ _ _ _ (Vs ha) (Vs ha')]
  . rw[ih _ _ _ _ _ (Vs ha) (Vs ha')]
theorem q9{a a':Nat}(b:Nat)(ha:a<256)(ha':a'<256):zI (a ^^^ a') b=zI a b ^^^ zI a' b:=by
 have:=zen 8 a a' b 0 0 ha ha'
 rwa [Nat.xor_self]at this
theorem Jd(b c:Nat):(b ^^^ c)%2=(b%2 ^^^ c%2):=Nat.xor_mod_two_pow (n:=1)
theorem zdb(b c:Nat):(b ^^^ c) / 2=(b / 2 ^^^ c / 2):=Nat.xor_div_two
theorem zdc(f a b b' o o':Nat):gm f a (b ^^^ b') (o ^^^ o')=gm f a b o ^^^ gm f a b' o':=by
 induction f generalizing a b b' o o' with
 |zero=>rfl
 |succ f ih=>
  simp only[gm];rw[zdb,Jd,<-ih]
  congr 1
  rcases Nat.mod_two_eq_zero_or_one b with h1|h1<;>rcases Nat.mod_two_eq_zero_or_one b' with h2|h2<;>simp[h1,h2]
  . rw[Nat.xor_assoc]
  . rw[Nat.xor_assoc,Nat.xor_assoc,Nat.xor_comm a]
  . rw[zbS,Nat.xor_self,Nat.xor_zero]
theorem qb(a b b':Nat):zI a (b ^^^ b')=zI a b ^^^ zI a b':=by
 have:=zdc 8 a b b' 0 0
 rwa [Nat.xor_self]at this
theorem jB(f g:Nat->Nat)(hf:∀x y,x<256->y<256->f (x ^^^ y)=f x ^^^ f y)(hg:∀x y,x<256->y<256->g (x ^^^ y)=g x ^^^ g y)
 (h:∀k,k<8->f (2^k)=g (2^k)):∀x,x<256->f x=g x:=by
 have f0:f 0=0:=by have:=hf 0 0 (by omega) (by omega);simpa using this
 have g0:g 0=0:=by have:=hg 0 0 (by omega) (by omega);simpa using this
 have H:∀m,m<=8->∀x,x<2^m->f x=g x:=by
  intro m;induction m with
  |zero=>
   intro _ x hx;obtain rfl:x=0:=by simpa using hx
   rw[f0,g0]
  |succ m ih=>
   intro hm x hx;have hp:2^m<=128:=Nat.pow_le_pow_right (n:=2) (by omega) (show m<=7 by omega);by_cases hxm:x<2^m
   . exact ih (by omega) x hxm
   . have hr:x ^^^ 2^m<2^m:=by
      have h1:x.testBit m=true:=by
       rw[Nat.testBit_eq_decide_div_mod_eq];have:x / 2^m=1:=by
        rw[Nat.pow_succ]at hx;exact Nat.div_eq_of_lt_le (by omega) (by omega)
       simp[this]
      refine Nat.lt_pow_two_of_testBit _ fun i hi=>?_
      rw[Nat.testBit_xor];by_cases him:i=m
      . subst him;rw[h1,Nat.testBit_two_pow_self];rfl
      . have h2:x.testBit i=false:=Nat.testBit_lt_two_pow (Nat.lt_of_lt_of_le hx (Nat.pow_le_pow_right (by omega) (by omega)));rw[h2,Nat.testBit_two_pow_of_ne (by omega)];rfl
     have e:x=(x ^^^ 2^m) ^^^ 2^m:=by rw[Nat.xor_assoc,Nat.xor_self,Nat.xor_zero]
     rw[e,hf _ _ (by omega) (by omega),hg _ _ (by omega) (by omega),ih (by omega) _ hr,h m (by omega)]
 exact fun x hx=>H 8 (Nat.le_refl _) x hx
theorem QV{a b:Nat}(ha:a<256)(hb:b<256):zI a b=zI b a:=by
 refine jB (fun x=>zI x b) (fun x=>zI b x) (fun x y hx hy=>q9 b hx hy) (fun x y _ _=>qb b x y) (fun k hk=>?_) a ha;refine jB (fun y=>zI (2^k) y) (fun y=>zI y (2^k)) (fun x y _ _=>qb _ x y) (fun x y hx hy=>q9 _ hx hy) (fun j hj=>?_) b hb;have H:∀k:Fin 8,∀j:Fin 8,zI (2^k.val) (2^j.val)=zI (2^j.val) (2^k.val):=by decide+kernel
 exact H ⟨k,hk⟩ ⟨j,hj⟩
theorem pU{a b c:Nat}(ha:a<256)(hb:b<256)(hc:c<256):zI (zI a b) c=zI a (zI b c):=by
 have p8:∀k,k<8->2^k<256:=fun k hk=>by have:=Nat.pow_lt_pow_right (a:=2) (by omega) hk;omega
 refine jB (fun x=>zI (zI x b) c) (fun x=>zI x (zI b c)) (fun x y hx hy=>?_) (fun x y hx hy=>q9 _ hx hy) (fun k hk=>?_) a ha
 . show zI (zI (x ^^^ y) b) c=_;rw[q9 b hx hy,q9 c (yL hx) (yL hy)]
 refine jB (fun y=>zI (zI (2^k) y) c) (fun y=>zI (2^k) (zI y c)) (fun x y _ _=>?_) (fun x y hx hy=>?_) (fun j hj=>?_) b hb
 . show zI (zI (2^k) (x ^^^ y)) c=_;rw[qb,q9 c (yL (p8 k hk)) (yL (p8 k hk))]
 . show zI (2^k) (zI (x ^^^ y) c)=_;rw[q9 c hx hy,qb]
 refine jB (fun z=>zI (zI (2^k) (2^j)) z) (fun z=>zI (2^k) (zI (2^j) z)) (fun x y _ _=>qb _ x y) (fun x y _ _=>?_) (fun i hi=>?_) c hc
 . show zI (2^k) (zI (2^j) (x ^^^ y))=_;rw[qb,qb]
 have H:∀k:Fin 8,∀j:Fin 8,∀i:Fin 8,zI (zI (2^k.val) (2^j.val)) (2^i.val)=zI (2^k.val) (zI (2^j.val) (2^i.val)):=by decide+kernel
 exact H ⟨k,hk⟩ ⟨j,hj⟩ ⟨i,hi⟩
theorem zbT(a:Nat):zI a 0=0:=by have:=qb a 0 0;simpa using this
theorem Qp{a:Nat}(_ha:a<256):zI a 1=a:=by simp[zI,gm]
theorem Qq{a:Nat}(ha:a<256):zI 1 a=a:=by rw[QV (by omega) ha,Qp ha]
def jX(a:Nat):Nat:=
 let a2:=zI a a;let a4:=zI a2 a2;let a8:=zI a4 a4;let a16:=zI a8 a8;let a32:=zI a16 a16;let a64:=zI a32 a32;let a128:=zI a64 a64
 zI (zI (zI (zI (zI (zI a2 a4) a8) a16) a32) a64) a128
theorem Kj{a:Nat}(ha:a<256):jX a<256:=by
 unfold jX;exact yL (yL (yL (yL (yL (yL (yL ha))))))
theorem zbU{a:Nat}(ha:a<256)(h0:a≠0):zI a (jX a)=1:=by
 have H:∀a:Fin 256,a.val≠0->zI a.val (jX a.val)=1:=by decide+kernel
 exact H ⟨a,ha⟩ h0
attribute [irreducible] zI
def qe(a:Nat):Nat->Nat
 |0=>1
 |n+1=>zI (qe a n) a
theorem jD{a:Nat}(n:Nat):qe a n<256:=by
 induction n with
 |zero=>simp[qe]
 |succ n ih=>exact yL ih
theorem zdi{a:Nat}(ha:a<256):qe a 1=a:=by simp only[qe];exact Qq ha
theorem j3{a:Nat}(ha:a<256)(m n:Nat):qe a (m+n)=zI (qe a m) (qe a n):=by
 induction n with
 |zero=>simp only[qe,Nat.add_zero];rw[Qp (jD m)]
 |succ n ih=>rw[<-Nat.add_assoc];simp only[qe];rw[ih,pU (jD m) (jD n) ha]
theorem zep{a:Nat}(ha:a<256)(n:Nat):qe (zI a a) n=qe a (2*n):=by
 induction n with
 |zero=>rfl
 |succ n ih=>
  have e:2*(n+1)=2*n+2:=by omega
  rw[e,j3 ha];have h2:qe a 2=zI a a:=by simp only[qe];rw[Qq ha]
  simp only[qe]at h2 ⊢;rw[ih,h2]
theorem Jh{a:Nat}(ha:a<256):jX a=qe a 254:=by
 have h2:zI a a=qe a 2:=by simp only[qe];rw[Qq ha]
 have hs:∀n,zI (qe a n) (qe a n)=qe a (n+n):=fun n=>(j3 ha n n).symm
 unfold jX;simp only[h2,hs,<-j3 ha]
def zeq:Nat->Nat->List Nat
 |0,_=>[]
 |f+1,x=>x::zeq f (xt x)
noncomputable def zgz(a:Nat):Nat:=Classical.epsilon fun k=>qe 2 k=a/\∀j,j<k->qe 2 j≠a
def ku:Nat->Nat->Nat->Nat
 |0,_,_=>0
 |i+1,a,b=>ku i a b ^^^ (a / 2^i%2*b)*2^i
def pV:Nat->Nat->Nat
 |0,x=>x
 |j+1,x=>pV j (if x / 2^(j+8)%2=1 then x ^^^ 285*2^j else x)
def kq(a b:Nat):Nat:=pV 7 (ku 8 a b)%256
theorem Zx(x y i:Nat):(x ^^^ y)*2^i=x*2^i ^^^ y*2^i:=by
 rw[<-Nat.shiftLeft_eq,<-Nat.shiftLeft_eq,<-Nat.shiftLeft_eq,Nat.shiftLeft_xor_distrib]
theorem Ji(x y i:Nat):(x ^^^ y) / 2^i=x / 2^i ^^^ y / 2^i:=by
 rw[<-Nat.shiftRight_eq_div_pow,<-Nat.shiftRight_eq_div_pow,<-Nat.shiftRight_eq_div_pow,Nat.shiftRight_xor_distrib]
theorem zbn(x y i:Nat):(x ^^^ y) / 2^i%2=(x / 2^i%2 ^^^ y / 2^i%2):=by rw[Ji,Jd]
theorem Jj(i a b b':Nat):ku i a (b ^^^ b')=ku i a b ^^^ ku i a b':=by
 induction i with
 |zero=>simp[ku]
 |succ i ih=>
  simp only[ku];rw[ih,zbS]
  congr 1
  rcases Nat.mod_two_eq_zero_or_one (a / 2^i)with h|h<;>simp[h,Zx]
theorem zaA(i a a' b:Nat):ku i (a ^^^ a') b=ku i a b ^^^ ku i a' b:=by
 induction i with
 |zero=>simp[ku]
 |succ i ih=>
  simp only[ku];rw[ih,zbS,zbn]
  congr 1
  rcases Nat.mod_two_eq_zero_or_one (a / 2^i)with h|h<;>rcases Nat.mod_two_eq_zero_or_one (a' / 2^i)with h'|h'<;>simp[h,h']
theorem Jk(j x y:Nat):pV j (x ^^^ y)=pV j x ^^^ pV j y:=by
 induction j generalizing x y with
 |zero=>rfl
 |succ j ih=>
  simp only[pV];rw[<-ih,zbn]
  congr 1
  generalize 285*2^j=c;rcases Nat.mod_two_eq_zero_or_one (x / 2^(j+8))with h|h<;>rcases Nat.mod_two_eq_zero_or_one (y / 2^(j+8))with h'|h'<;>simp[h,h']
  . rw[Nat.xor_assoc]
  . rw[Nat.xor_assoc,Nat.xor_assoc,Nat.xor_comm c]
  . rw[zbS,Nat.xor_self,Nat.xor_zero]
theorem Kk(a b b':Nat):kq a (b ^^^ b')=kq a b ^^^ kq a b':=by
 unfold kq;rw[Jj,Jk,Nat.xor_mod_two_pow (n:=8)]
theorem Jl(a a' b:Nat):kq (a ^^^ a') b=kq a b ^^^ kq a' b:=by
 unfold kq;rw[zaA,Jk,Nat.xor_mod_two_pow (n:=8)]
theorem zb0{a b:Nat}(ha:a<256)(hb:b<256):kq a b=zI a b:=by
 refine jB (fun x=>kq x b) (fun x=>zI x b) (fun x y _ _=>Jl x y b) (fun x y hx hy=>q9 b hx hy) (fun k hk=>?_) a ha;refine jB (fun y=>kq (2^k) y) (fun y=>zI (2^k) y) (fun x y _ _=>Kk _ x y) (fun x y _ _=>qb _ x y) (fun j hj=>?_) b hb;have H:∀k:Fin 8,∀j:Fin 8,kq (2^k.val) (2^j.val)=zI (2^k.val) (2^j.val):=by decide+kernel
 exact H ⟨k,hk⟩ ⟨j,hj⟩
set_option linter.unusedSectionVars false
structure Fld (α:Type) [Add α] [Mul α] [Neg α] [Zero α] [One α] [Inv α]:Prop where
 add_assoc:∀a b c:α,a+b+c=a+(b+c)
 add_comm:∀a b:α,a+b=b+a
 add_zero:∀a:α,a+0=a
 add_neg:∀a:α,a+ -a=0
 mul_assoc:∀a b c:α,a*b*c=a*(b*c)
 mul_comm:∀a b:α,a*b=b*a
 mul_one:∀a:α,a*1=a
 mul_add:∀a b c:α,a*(b+c)=a*b+a*c
 mul_inv:∀a:α,a≠0->a*a⁻¹=1
 one_ne:(1:α)≠0
section
variable {α:Type} [Add α] [Mul α] [Neg α] [Zero α] [One α] [Inv α] (F:Fld α)
include F
theorem Fld.zero_add(a:α):0+a=a:=by rw[F.add_comm,F.add_zero]
theorem Fld.one_mul(a:α):1*a=a:=by rw[F.mul_comm,F.mul_one]
theorem Fld.add_mul(a b c:α):(a+b)*c=a*c+b*c:=by rw[F.mul_comm,F.mul_add,F.mul_comm c a,F.mul_comm c b]
theorem Fld.neg_add(a:α): -a+a=0:=by rw[F.add_comm,F.add_neg]
theorem Fld.add_left_cancel{a b c:α}(h:a+b=a+c):b=c:=by
 have: -a+(a+b)= -a+(a+c):=by rw[h]
 rwa [<-F.add_assoc,<-F.add_assoc,F.neg_add,F.zero_add,F.zero_add]at this
theorem Fld.mul_zero(a:α):a*0=0:=by
 have h:a*0+a*0=a*0+0:=by rw[<-F.mul_add,F.add_zero,F.add_zero]
 exact F.add_left_cancel h
theorem Fld.zero_mul(a:α):0*a=0:=by rw[F.mul_comm,F.mul_zero]
theorem Fld.eq_neg{a b:α}(h:a+b=0):b= -a:=F.add_left_cancel (h.trans (F.add_neg a).symm)
theorem Fld.neg_mul(a b:α): -a*b= -(a*b):=by
 apply F.eq_neg;rw[<-F.add_mul,F.add_neg,F.zero_mul]
theorem Fld.mul_neg(a b:α):a* -b= -(a*b):=by rw[F.mul_comm,F.neg_mul,F.mul_comm]
theorem Fld.neg_neg(a:α): - -a=a:=(F.eq_neg (F.neg_add a)).symm
theorem Fld.neg_zero: -(0:α)=0:=(F.eq_neg (F.add_zero 0)).symm
theorem Fld.neg_add_rev(a b:α): -(a+b)= -a+ -b:=by
 apply Eq.symm;apply F.eq_neg;rw[F.add_assoc,<-F.add_assoc b,F.add_comm b,F.add_assoc (-a),F.add_neg,F.add_zero,F.add_neg]
theorem Fld.sub_eq_zero{a b:α}(h:a+ -b=0):a=b:=by
 have:=F.eq_neg h;rw[<-F.neg_neg a,<-this,F.neg_neg]
theorem Fld.sub_ne_zero{a b:α}(h:a≠b):a+ -b≠0:=fun h2=>h (F.sub_eq_zero h2)
theorem Fld.mul_eq_zero{a b:α}(h:a*b=0):a=0\/b=0:=by
 by_cases ha:a=0
 . exact .inl ha
 . right;have h2:a⁻¹*(a*b)=b:=by rw[<-F.mul_assoc,F.mul_comm a⁻¹,F.mul_inv a ha,F.one_mul]
   rw[<-h2,h,F.mul_zero]
theorem Fld.add_left_comm(a b c:α):a+(b+c)=b+(a+c):=by rw[<-F.add_assoc,F.add_comm a,F.add_assoc]
theorem Fld.mul_left_comm(a b c:α):a*(b*c)=b*(a*c):=by rw[<-F.mul_assoc,F.mul_comm a,F.mul_assoc]
theorem Fld.add_neg_cancel(a b:α):a+(-a+b)=b:=by rw[<-F.add_assoc,F.add_neg,F.zero_add]
theorem Fld.neg_add_cancel(a b:α): -a+(a+b)=b:=by rw[<-F.add_assoc,F.neg_add,F.zero_add]
def ev:List α->α->α
 |[],_=>0
 |c::l,x=>c+x*ev l x
omit F in
def PolyF(k:Nat)(f:α->α):Prop:=∃l:List α,l.length=k/\∀x,f x=ev l x
theorem PolyF.zero(k:Nat):PolyF k (fun _=>(0:α)):=by
 induction k with
 |zero=>exact⟨[],rfl,fun x=>rfl⟩
 |succ k ih=>
  obtain⟨l,hl,he⟩:=ih;exact⟨0::l,by simp[hl],fun x=>by rw[ev,<-he x,F.mul_zero,F.add_zero]⟩
omit F in
theorem PolyF.ext{k:Nat}{f g:α->α}(h:PolyF k f)(e:∀x,f x=g x):PolyF k g:=by
 obtain⟨l,hl,he⟩:=h;exact⟨l,hl,fun x=>by rw[<-e x,he x]⟩
theorem PolyF.cons{k:Nat}{f:α->α}(c:α)(h:PolyF k f):PolyF (k+1) (fun x=>c+x*f x):=by
 obtain⟨l,hl,he⟩:=h;exact⟨c::l,by simp[hl],fun x=>by simp only[ev];rw[he x]⟩
omit F in
theorem PolyF.uncons{k:Nat}{f:α->α}(h:PolyF (k+1) f):∃c g,PolyF k g/\∀x,f x=c+x*g x:=by
 obtain⟨l,hl,he⟩:=h;cases l with
 |nil=>simp at hl
 |cons c l=>exact⟨c,ev l,⟨l,by simpa using hl,fun x=>rfl⟩,fun x=>by rw[he x,ev]⟩
theorem PolyF.const{k:Nat}(c:α):PolyF (k+1) (fun _=>c):=
 (PolyF.cons F c (PolyF.zero F k)).ext fun x=>by rw[F.mul_zero,F.add_zero]
theorem PolyF.add{k:Nat}:∀{f g:α->α},PolyF k f->PolyF k g->PolyF k (fun x=>f x+g x):=by
 induction k with
 |zero=>
  rintro f g ⟨l,hl,he⟩ ⟨m,hm,hf⟩;obtain rfl:=List.eq_nil_of_length_eq_zero hl;obtain rfl:=List.eq_nil_of_length_eq_zero hm;exact⟨[],rfl,fun x=>by simp only[he,hf,ev];rw[F.add_zero]⟩
 |succ k ih=>
  intro f g hf hg;obtain⟨c,f',hf',ef⟩:=hf.uncons;obtain⟨d,g',hg',eg⟩:=hg.uncons;refine(PolyF.cons F (c+d) (ih hf' hg')).ext fun x=>?_
  rw[ef,eg,F.mul_add,F.add_assoc,F.add_assoc,F.add_left_comm d]
theorem PolyF.smul{k:Nat}(a:α):∀{f:α->α},PolyF k f->PolyF k (fun x=>a*f x):=by
 induction k with
 |zero=>
  rintro f ⟨l,hl,he⟩;obtain rfl:=List.eq_nil_of_length_eq_zero hl;exact⟨[],rfl,fun x=>by simp only[he,ev];rw[F.mul_zero]⟩
 |succ k ih=>
  intro f hf;obtain⟨c,f',hf',ef⟩:=hf.uncons;refine(PolyF.cons F (a*c) (ih hf')).ext fun x=>?_
  rw[ef,F.mul_add,F.mul_left_comm]
theorem PolyF.mulx{k:Nat}{f:α->α}(h:PolyF k f):PolyF (k+1) (fun x=>x*f x):=
 (PolyF.cons F 0 h).ext fun x=>F.zero_add _
theorem PolyF.succ{k:Nat}:∀{f:α->α},PolyF k f->PolyF (k+1) f:=by
 induction k with
 |zero=>
  rintro f ⟨l,hl,he⟩;obtain rfl:=List.eq_nil_of_length_eq_zero hl;exact(PolyF.zero F 1).ext fun x=>by rw[he,ev]
 |succ k ih=>
  intro f hf;obtain⟨c,f',hf',ef⟩:=hf.uncons;exact(PolyF.cons F c (ih hf')).ext fun x=>(ef x).symm
theorem PolyF.mono{k m:Nat}(hkm:k<=m){f:α->α}(h:PolyF k f):PolyF m f:=by
 induction hkm with
 |refl=>exact h
 |step _ ih=>exact PolyF.succ F ih
theorem PolyF.neg{k:Nat}{f:α->α}(h:PolyF k f):PolyF k (fun x=> -f x):=
 (PolyF.smul F (-1) h).ext fun x=>by rw[F.neg_mul,F.one_mul]
theorem PolyF.sub{k:Nat}{f g:α->α}(h:PolyF k f)(h2:PolyF k g):PolyF k (fun x=>f x+ -g x):=PolyF.add F h (PolyF.neg F h2)
theorem PolyF.lin{k:Nat}{f:α->α}(a:α)(h:PolyF k f):PolyF (k+1) (fun x=>(x+a)*f x):=
 (PolyF.add F (PolyF.mulx F h) (PolyF.succ F (PolyF.smul F a h))).ext fun x=>(F.add_mul _ _ _).symm
theorem PolyF.divide{k:Nat}(a:α):∀{f:α->α},PolyF (k+1) f->∃g c,PolyF k g/\∀x,f x=(x+ -a)*g x+c:=by
 induction k with
 |zero=>
  intro f hf;obtain⟨c,f',⟨l,hl,he⟩,ef⟩:=hf.uncons;obtain rfl:=List.eq_nil_of_length_eq_zero hl;exact⟨fun _=>0,c,PolyF.zero F 0,fun x=>by rw[ef,he,ev,F.mul_zero,F.mul_zero,F.add_zero,F.zero_add]⟩
 |succ k ih=>
  intro f hf;obtain⟨c,f',hf',ef⟩:=hf.uncons;obtain⟨g,d,hg,eg⟩:=ih hf';refine⟨fun x=>d+x*g x,c+a*d,PolyF.cons F d hg,fun x=>?_⟩;rw[ef,eg];have e1:x*((x+ -a)*g x+d)=(x+ -a)*(x*g x)+x*d:=by rw[F.mul_add,F.mul_left_comm]
  have e2:(x+ -a)*(d+x*g x)=x*d+ -(a*d)+(x+ -a)*(x*g x):=by rw[F.mul_add,F.add_mul x (-a) d,F.neg_mul]
  rw[e1,e2];generalize(x+ -a)*(x*g x)=Z;generalize x*d=Y;generalize a*d=W;have e3:(Y+ -W)+Z+(c+W)=(Y+Z)+(-W+(c+W)):=by
   rw[F.add_assoc Y,F.add_comm (-W) Z,<-F.add_assoc Y,F.add_assoc (Y+Z)]
  rw[e3,F.add_comm c W,F.neg_add_cancel,F.add_comm Y Z,F.add_comm c]
theorem PolyF.root{k:Nat}(a:α){f:α->α}(hf:PolyF (k+1) f)(h:f a=0):∃g,PolyF k g/\∀x,f x=(x+ -a)*g x:=by
 obtain⟨g,c,hg,e⟩:=PolyF.divide F a hf;have hc:c=0:=by
  have:=e a;rw[F.add_neg,F.zero_mul,F.zero_add,h]at this;exact this.symm
 exact⟨g,hg,fun x=>by rw[e x,hc,F.add_zero]⟩
theorem PolyF.roots{k:Nat}:∀{f:α->α} {rs:List α},PolyF k f->rs.length=k->rs.Nodup->(∀r∈rs,f r=0)->∀x,f x=0:=by
 induction k with
 |zero=>
  rintro f rs ⟨l,hl,he⟩ _ _ _ x;obtain rfl:=List.eq_nil_of_length_eq_zero hl;rw[he,ev]
 |succ k ih=>
  intro f rs hf hl hnd h x;cases rs with
  |nil=>simp at hl
  |cons r rs=>
   obtain⟨g,hg,e⟩:=PolyF.root F r hf (h r (List.mem_cons_self ..));rw[List.nodup_cons]at hnd;have hg0:=ih hg (by simpa using hl) hnd.2 (fun s hs=>by
    have h1:=h s (List.mem_cons_of_mem _ hs);rw[e s]at h1;rcases F.mul_eq_zero h1 with h2|h2
    . have:=F.sub_eq_zero h2;subst this;exact absurd hs hnd.1
    . exact h2)
   rw[e x,hg0 x,F.mul_zero]
theorem PolyF.agree{k:Nat}{f g:α->α}{rs:List α}(hf:PolyF k f)(hg:PolyF k g)(hl:k<=rs.length)(hnd:rs.Nodup)(h:∀r∈rs,f r=g r)(x:α):f x=g x:=by
 have hd:=PolyF.roots F (PolyF.sub F hf hg) (rs:=rs.take k) (by rw[List.length_take];omega) (hnd.sublist (List.take_sublist _ _)) (fun r hr=>by rw[h r (List.mem_of_mem_take hr),F.add_neg]) x;exact F.sub_eq_zero hd
omit F in
def kf:List α->α->α
 |[],_=>1
 |r::l,x=>(x+ -r)*kf l x
theorem za3{l:List α}{r:α}(h:r∈l):kf l r=0:=by
 induction l with
 |nil=>simp at h
 |cons s l ih=>
  rw[List.mem_cons]at h;rcases h with h|h
  . subst h;rw[kf,F.add_neg,F.zero_mul]
  . rw[kf,ih h,F.mul_zero]
theorem za4(l:List α)(r x:α):kf (l++[r]) x=kf l x*(x+ -r):=by
 induction l with
 |nil=>simp only[List.nil_append,kf];rw[F.mul_one,F.one_mul]
 |cons s l ih=>simp only[List.cons_append,kf];rw[ih,F.mul_assoc]
omit F in
def pwF(x:α):Nat->α
 |0=>1
 |k+1=>x*pwF x k
omit F in
def Lead(k:Nat)(c:α)(f:α->α):Prop:=∃g,PolyF k g/\∀x,f x=c*pwF x k+g x
omit F in
theorem Lead.ext{k:Nat}{c:α}{f g:α->α}(h:Lead k c f)(e:∀x,f x=g x):Lead k c g:=by
 obtain⟨u,hu,eu⟩:=h;exact⟨u,hu,fun x=>by rw[<-e x,eu]⟩
theorem Lead.lin{k:Nat}{c:α}{f:α->α}(a:α)(h:Lead k c f):Lead (k+1) c (fun x=>(x+a)*f x):=by
 obtain⟨u,hu,eu⟩:=h;refine⟨fun x=>(a*c)*pwF x k+(x+a)*u x,?_,fun x=>?_⟩
 . have hp:PolyF (k+1) (fun x:α=>pwF x k):=by
    clear hu eu;induction k with
    |zero=>exact PolyF.const F 1
    |succ k ih=>exact PolyF.mulx F ih
   exact PolyF.add F (PolyF.smul F (a*c) hp) (PolyF.lin F a hu)
 . simp only[pwF];rw[eu,F.mul_add,F.add_mul x a (c*pwF x k)];rw[F.mul_left_comm x c,F.mul_assoc a c,F.add_assoc]
theorem Lead.poly{k:Nat}{c:α}{f:α->α}(h:Lead k c f):PolyF (k+1) f:=by
 obtain⟨u,hu,eu⟩:=h;have hp:PolyF (k+1) (fun x:α=>pwF x k):=by
  clear hu eu;induction k with
  |zero=>exact PolyF.const F 1
  |succ k ih=>exact PolyF.mulx F ih
 exact(PolyF.add F (PolyF.smul F c hp) (PolyF.succ F hu)).ext fun x=>(eu x).symm
theorem Lead.sub{k:Nat}{c d:α}{f g:α->α}(h:Lead k c f)(h2:Lead k d g):Lead k (c+ -d) (fun x=>f x+ -g x):=by
 obtain⟨u,hu,eu⟩:=h;obtain⟨v,hv,e2⟩:=h2;refine⟨fun x=>u x+ -v x,PolyF.sub F hu hv,fun x=>?_⟩;simp only;rw[eu,e2,F.add_mul,F.neg_mul,F.neg_add_rev];simp only[F.add_assoc];rw[F.add_left_comm (u x)]
theorem Lead.smul{k:Nat}{c:α}{f:α->α}(a:α)(h:Lead k c f):Lead k (a*c) (fun x=>a*f x):=by
 obtain⟨u,hu,eu⟩:=h;exact⟨fun x=>a*u x,PolyF.smul F a hu,fun x=>by simp only;rw[eu,F.mul_add,F.mul_assoc]⟩
theorem Lead.of_poly{k:Nat}{f:α->α}(h:PolyF k f):Lead k 0 f:=⟨f,h,fun x=>by rw[F.zero_mul,F.zero_add]⟩
theorem Xq(l:List α):Lead l.length 1 (kf l):=by
 induction l with
 |nil=>exact⟨fun _=>0,PolyF.zero F 0,fun x=>by simp only[kf,pwF,List.length_nil];rw[F.add_zero,F.mul_one]⟩
 |cons r l ih=>exact(Lead.lin F (-r) ih).ext fun x=>rfl
theorem Lead.roots{k:Nat}{c:α}{f:α->α}{rs:List α}(h:Lead k c f)(hl:rs.length=k)(hnd:rs.Nodup)(h0:∀r∈rs,f r=0)(x:α):f x=c*kf rs x:=by
 have hp:Lead k (c*1) (fun x=>c*kf rs x):=by
  have:=Lead.smul F c (Xq F rs)
  rwa [hl]at this
 obtain⟨u,hu,eu⟩:=Lead.sub F h hp;have hd:PolyF k (fun x=>f x+ -(c*kf rs x)):=hu.ext fun x=>by
  have:=eu x;simp only at this;rw[this,F.mul_one,F.add_neg,F.zero_mul,F.zero_add]
 exact F.sub_eq_zero (PolyF.roots F hd hl hnd (fun r hr=>by rw[h0 r hr,za3 F hr,F.mul_zero,F.neg_zero,F.add_zero]) x)
omit F in
def dd(xs ys:Nat->α):Nat->Nat->α
 |0,i=>ys i
 |n+1,i=>(dd xs ys n i+ -dd xs ys n (i-1))*(xs i+ -xs (i-(n+1)))⁻¹
omit F in
def places(xs:Nat->α)(a n:Nat):List α:=(List.range n).map fun j=>xs (a+j)
omit F in
def ju(xs ys:Nat->α)(a:Nat):Nat->α->α
 |0,_=>dd xs ys 0 a
 |n+1,x=>ju xs ys a n x+dd xs ys (n+1) (a+n+1)*kf (places xs a (n+1)) x
omit F in
theorem J1(xs:Nat->α)(a n:Nat):places xs a (n+1)=places xs a n++[xs (a+n)]:=by simp[places,List.range_succ]
omit F in
theorem jK(xs:Nat->α)(a n:Nat):(places xs a n).length=n:=by simp[places]
omit F in
theorem Qb{xs:Nat->α}{a n:Nat}{r:α}:r∈places xs a n↔∃j,j<n/\xs (a+j)=r:=by simp[places]
omit F in
theorem jL{xs:Nat->α}{a n:Nat}(h:∀i j,i<j->j<a+n->xs i≠xs j):(places xs a n).Nodup:=by
 unfold places;rw[List.nodup_iff_pairwise_ne,List.pairwise_map];refine List.pairwise_lt_range.imp_of_mem fun{i j} hi hj hij=>?_
 have hj2:=List.mem_range.1 hj;exact h _ _ (by omega) (by omega)
theorem pF(xs ys:Nat->α)(a n:Nat):Lead n (dd xs ys n (a+n)) (ju xs ys a n):=by
 induction n with
 |zero=>exact⟨fun _=>0,PolyF.zero F 0,fun x=>by simp only[ju,pwF,Nat.add_zero];rw[F.add_zero,F.mul_one]⟩
 |succ n ih=>
  have h1:=Lead.smul F (dd xs ys (n+1) (a+n+1)) (Xq F (places xs a (n+1)));rw[jK,F.mul_one]at h1;obtain⟨u,hu,eu⟩:=h1;refine⟨fun x=>ju xs ys a n x+u x,PolyF.add F (Lead.poly F ih) hu,fun x=>?_⟩;have e2:=eu x;simp only at e2;simp only[ju];rw[e2,F.add_left_comm];rfl
theorem zfd(xs ys:Nat->α):∀(n a:Nat),(∀i j,i<j->j<a+n+1->xs i≠xs j)->∀j,j<=n->ju xs ys a n (xs (a+j))=ys (a+j):=by
 intro n;induction n with
 |zero=>
  intro a _ j hj;obtain rfl:j=0:=by omega
  rfl
 |succ n ih=>
  intro a hd j hj;have hQ:=ih a (fun i j h1 h2=>hd i j h1 (by omega));have hR:=ih (a+1) (fun i j h1 h2=>hd i j h1 (by omega));have hne:xs (a+n+1)+ -xs a≠0:=F.sub_ne_zero (hd a (a+n+1) (by omega) (by omega)).symm;have hS:Lead (n+1) (dd xs ys (n+1) (a+n+1)) (fun x=>(xs (a+n+1)+ -xs a)⁻¹*((x+ -xs a)*ju xs ys (a+1) n x+ -((x+ -xs (a+n+1))*ju xs ys a n x))):=by
   have h1:=Lead.smul F (xs (a+n+1)+ -xs a)⁻¹ (Lead.sub F (Lead.lin F (-xs a) (pF F xs ys (a+1) n)) (Lead.lin F (-xs (a+n+1)) (pF F xs ys a n)));have e:(xs (a+n+1)+ -xs a)⁻¹*(dd xs ys n (a+1+n)+ -dd xs ys n (a+n))=dd xs ys (n+1) (a+n+1):=by
    show _=(dd xs ys n (a+n+1)+ -dd xs ys n (a+n+1-1))*(xs (a+n+1)+ -xs (a+n+1-(n+1)))⁻¹;rw[F.mul_comm,show a+1+n=a+n+1 by omega,show a+n+1-1=a+n by omega,show a+n+1-(n+1)=a by omega]
   rwa [e]at h1
  have hinv:(xs (a+n+1)+ -xs a)⁻¹*(xs (a+n+1)+ -xs a)=1:=by rw[F.mul_comm,F.mul_inv _ hne]
  have hSat:∀j,j<=n+1->(xs (a+n+1)+ -xs a)⁻¹*((xs (a+j)+ -xs a)*ju xs ys (a+1) n (xs (a+j))+ -((xs (a+j)+ -xs (a+n+1))*ju xs ys a n (xs (a+j))))=ys (a+j):=by
   intro j hj;by_cases h0:j=0
   . subst h0;have hq:=hQ 0 (by omega);simp only[Nat.add_zero]at hq ⊢;rw[F.add_neg,F.zero_mul,F.zero_add,hq,<-F.neg_mul,F.neg_add_rev,F.neg_neg,F.add_comm (-xs a),<-F.mul_assoc,hinv,F.one_mul]
   . have hr:=hR (j-1) (by omega);rw[show a+1+(j-1)=a+j by omega]at hr;by_cases hl:j=n+1
     . subst hl;rw[hr,<-Nat.add_assoc,F.add_neg,F.zero_mul,F.neg_zero,F.add_zero,<-F.mul_assoc,hinv,F.one_mul]
     . have hq:=hQ j (by omega);rw[hr,hq,<-F.neg_mul,<-F.add_mul,F.neg_add_rev,F.neg_neg];have e:xs (a+j)+ -xs a+(-xs (a+j)+xs (a+n+1))=xs (a+n+1)+ -xs a:=by
        generalize xs (a+j)=X;rw[F.add_comm X,F.add_assoc,F.add_neg_cancel,F.add_comm]
       rw[e,<-F.mul_assoc,hinv,F.one_mul]
  have hL:Lead (n+1) (dd xs ys (n+1) (a+n+1)) (fun x=>(xs (a+n+1)+ -xs a)⁻¹*((x+ -xs a)*ju xs ys (a+1) n x+ -((x+ -xs (a+n+1))*ju xs ys a n x))+ -ju xs ys a n x):=by
   have h1:=Lead.sub F hS (Lead.of_poly F (Lead.poly F (pF F xs ys a n)))
   rwa [F.neg_zero,F.add_zero]at h1
  have hrt:=Lead.roots F hL (jK xs a (n+1)) (jL fun i j h1 h2=>hd i j h1 (by omega)) (fun r hr=>by
   obtain⟨i,hi,rfl⟩:=Qb.1 hr;rw[hSat i (by omega),hQ i (by omega),F.add_neg]) (xs (a+j))
  simp only[ju];rw[<-hrt,hSat j hj];rw[F.add_comm (ys _),F.add_neg_cancel]
end
end Go.Proofs.YtmgfbmkfomebcaaGreatDoor
