/- Multiplicative functions (EULER's, MOEBIUS's) and sums over divisors, in plain arithmetic. -/
import Derived.Test.YtmgfbmkfomebcaaGreatDoorDkM1
import Derived.Test.YtmgfbmkfomebcaaGreatDoorDkM0
import Derived.WalkKit
import Derived.WalkSpells
import Derived.WalkLawsBesides
import Derived.Deep.QuietTactic
import Derived.BigQuiet
import Derived.Lib.Hide
import Derived.Handy
import Derived.Laws.AppendOwnNone
set_option linter.unusedVariables false
set_option linter.unusedSimpArgs false
namespace Go.Proofs.YtmgfbmkfomebcaaGreatDoor
theorem IsPr.dvd_mul{p a b:Nat}(hp:IsPr p)(h:p∣a*b):p∣a\/p∣b:=by
 have hg:Nat.gcd p a∣p:=Nat.gcd_dvd_left p a;have hg2:Nat.gcd p a∣a:=Nat.gcd_dvd_right p a;have hpos:0<p:=by have:=hp.1;omega
 have hle:=Nat.le_of_dvd hpos hg;by_cases h1:Nat.gcd p a=1
 . right;exact Nat.Coprime.dvd_of_dvd_mul_left h1 h
 . left;by_cases h2:Nat.gcd p a=p
   . rw[h2]at hg2;exact hg2
   . have h0:0<Nat.gcd p a:=Nat.gcd_pos_of_pos_left _ hpos;exact absurd hg (hp.2 _ (by omega) (by omega))
theorem IsPr.eq_of_dvd{p q:Nat}(hp:IsPr p)(hq:IsPr q)(h:p∣q):p=q:=by
 have h1:=Nat.le_of_dvd (by have:=hq.1;omega) h;by_cases h2:p=q
 . exact h2
 . exact absurd h (hq.2 p hp.1 (by omega))
theorem IsPr.dvd_pow{p a k:Nat}(hp:IsPr p)(h:p∣a^k):p∣a:=by
 induction k with
 |zero=>rw[Nat.pow_zero]at h;have:=Nat.le_of_dvd (by omega) h;have:=hp.1;omega
 |succ k ih=>
  rw[Nat.pow_succ]at h;rcases hp.dvd_mul h with h1|h1
  . exact ih h1
  . exact h1
theorem jd{l:List (Nat×Nat)}{a:Nat×Nat}(ha:a∈l)(h1:1<=a.2):a.1∣zU l:=by
 induction l with
 |nil=>simp at ha
 |cons b l ih=>
  rw[List.mem_cons]at ha;rcases ha with ha|ha
  . subst ha;obtain⟨k,hk⟩:∃k,a.2=k+1:=⟨a.2-1,by omega⟩
    simp only[zU];rw[hk,Nat.pow_succ];exact⟨a.1^k*zU l,by rw[Nat.mul_comm (a.1^k) a.1,Nat.mul_assoc]⟩
  . exact Nat.dvd_trans (ih ha) (Nat.dvd_mul_left _ _)
theorem kQ{p:Nat}{l:List (Nat×Nat)}(hp:IsPr p)(h:p∣zU l)(hl:∀a∈l,IsPr a.1):∃a,a∈l/\a.1=p:=by
 induction l with
 |nil=>simp only[zU]at h;have:=Nat.le_of_dvd (by omega) h;have:=hp.1;omega
 |cons b l ih=>
  simp only[zU]at h;rcases hp.dvd_mul h with h1|h1
  . exact⟨b,List.mem_cons_self ..,(hp.eq_of_dvd (hl b (List.mem_cons_self ..)) (hp.dvd_pow h1)).symm⟩
  . obtain⟨a,ha,he⟩:=ih h1 (fun a ha=>hl a (List.mem_cons_of_mem _ ha));exact⟨a,List.mem_cons_of_mem _ ha,he⟩
theorem JQ{l:List (Nat×Nat)}(hl:∀a∈l,IsPr a.1/\1<=a.2):1<=zU l:=by
 induction l with
 |nil=>simp[zU]
 |cons b l ih=>
  simp only[zU];have h1:=ih fun a ha=>hl a (List.mem_cons_of_mem _ ha)
  have h2:0<b.1^b.2:=Nat.pow_pos (by have:=(hl b (List.mem_cons_self ..)).1.1;omega);exact Nat.mul_pos h2 h1
theorem Factors.tail{n:Nat}{a:Nat×Nat}{l:List (Nat×Nat)}(h:Factors n (a::l)):Factors (zU l) l:=
 ⟨rfl,(List.pairwise_cons.1 h.inc).2,fun b hb=>h.pr b (List.mem_cons_of_mem _ hb)⟩
theorem Factors.head_not{n:Nat}{a:Nat×Nat}{l:List (Nat×Nat)}(h:Factors n (a::l)):¬a.1∣zU l:=by
 intro hd;obtain⟨b,hb,he⟩:=kQ (h.pr a (List.mem_cons_self ..)).1 hd (fun b hb=>(h.pr b (List.mem_cons_of_mem _ hb)).1);have:=(List.pairwise_cons.1 h.inc).1 b hb;omega
theorem Factors.pos{n:Nat}{l:List (Nat×Nat)}(h:Factors n l):1<=n:=by rw[<-h.prod];exact JQ h.pr
theorem Factors.one{l:List (Nat×Nat)}(h:Factors 1 l):l=[]:=by
 cases l with
 |nil=>rfl
 |cons a l=>
  have h1:=jd (List.mem_cons_self (a:=a) (l:=l)) (h.pr a (List.mem_cons_self ..)).2;rw[h.prod]at h1;have:=Nat.le_of_dvd (by omega) h1;have:=(h.pr a (List.mem_cons_self ..)).1.1;omega
theorem zaW{p k m A B:Nat}(hp:0<p)(hA:¬p∣A)(hB:¬p∣B)(h:p^k*A=p^m*B):k=m/\A=B:=by
 induction k generalizing m with
 |zero=>
  cases m with
  |zero=>simp only[Nat.pow_zero,Nat.one_mul]at h;exact⟨rfl,h⟩
  |succ m=>exfalso;apply hA;rw[Nat.pow_zero,Nat.one_mul]at h;rw[h,Nat.pow_succ];exact⟨p^m*B,by rw[Nat.mul_comm (p^m),Nat.mul_assoc]⟩
 |succ k ih=>
  cases m with
  |zero=>exfalso;apply hB;rw[Nat.pow_zero,Nat.one_mul]at h;rw[<-h,Nat.pow_succ];exact⟨p^k*A,by rw[Nat.mul_comm (p^k),Nat.mul_assoc]⟩
  |succ m=>
   have h2:p^k*A=p^m*B:=by
    rw[Nat.pow_succ,Nat.pow_succ,Nat.mul_comm (p^k),Nat.mul_comm (p^m),Nat.mul_assoc,Nat.mul_assoc]at h;exact Nat.eq_of_mul_eq_mul_left hp h
   obtain⟨h3,h4⟩:=ih h2;exact⟨by omega,h4⟩
theorem Factors.uniq:∀{l m:List (Nat×Nat)} {n:Nat},Factors n l->Factors n m->l=m:=by
 intro l;induction l with
 |nil=>
  intro m n h1 h2;have:n=1:=by rw[<-h1.prod];rfl
  subst this;exact h2.one.symm
 |cons a l ih=>
  intro m n h1 h2;cases m with
  |nil=>
   have:n=1:=by rw[<-h2.prod];rfl
   subst this;exact absurd h1.one (by simp)
  |cons b m=>
   have ha:=h1.pr a (List.mem_cons_self ..);have hb:=h2.pr b (List.mem_cons_self ..);have hab:b.1<=a.1:=by
    have hd:=jd (List.mem_cons_self (a:=a) (l:=l)) ha.2;rw[h1.prod,<-h2.prod]at hd;obtain⟨c,hc,he⟩:=kQ ha.1 hd (fun c hc=>(h2.pr c hc).1);rw[List.mem_cons]at hc;rcases hc with hc|hc
    . subst hc;omega
    . have:=(List.pairwise_cons.1 h2.inc).1 c hc;omega
   have hba:a.1<=b.1:=by
    have hd:=jd (List.mem_cons_self (a:=b) (l:=m)) hb.2;rw[h2.prod,<-h1.prod]at hd;obtain⟨c,hc,he⟩:=kQ hb.1 hd (fun c hc=>(h1.pr c hc).1);rw[List.mem_cons]at hc;rcases hc with hc|hc
    . subst hc;omega
    . have:=(List.pairwise_cons.1 h1.inc).1 c hc;omega
   have he:a.1=b.1:=by omega
   have hp:=h1.prod.trans h2.prod.symm;simp only[zU]at hp;rw[he]at hp;have hn1:=h1.head_not;rw[he]at hn1;obtain⟨h3,h4⟩:=zaW (by have:=hb.1.1;omega) hn1 h2.head_not hp;have h5:=h1.tail;rw[h4]at h5;have h6:=ih h5 h2.tail;rw[h6]
   congr 1
   exact Prod.ext he h3
theorem zcs{p:Nat}(hp:2<=p):∀{n:Nat},1<=n->∃k m,n=p^k*m/\¬p∣m/\1<=m:=by
 intro n;induction n using Nat.strongRecOn with
 |_ n ih=>
  intro hn;by_cases h:p∣n
  . obtain⟨c,hc⟩:=h;have hc1:1<=c:=by
     rcases Nat.eq_zero_or_pos c with h0|h0
     . subst h0;omega
     . exact h0
    have hlt:c<n:=by
     have:c*2<=c*p:=Nat.mul_le_mul_left c hp;rw[Nat.mul_comm c p]at this;omega
    obtain⟨k,m,h1,h2,h3⟩:=ih c hlt hc1;refine⟨k+1,m,?_,h2,h3⟩;rw[hc,h1,Nat.pow_succ,Nat.mul_comm (p^k) p,Nat.mul_assoc]
  . exact⟨0,n,by simp,h,hn⟩
theorem zaX:∀{n:Nat},2<=n->∃p,IsPr p/\p∣n:=by
 intro n;induction n using Nat.strongRecOn with
 |_ n ih=>
  intro hn;by_cases h:IsPr n
  . exact⟨n,h,Nat.dvd_refl n⟩
  . have h2:∃d,2<=d/\d<n/\d∣n:=by
     apply Classical.byContradiction;intro hno;exact h ⟨hn,fun d h1 h2 h3=>hno ⟨d,h1,h2,h3⟩⟩
    obtain⟨d,h3,h4,h5⟩:=h2;obtain⟨p,hp,hd⟩:=ih d h4 h3;exact⟨p,hp,Nat.dvd_trans hd h5⟩
def Xl(a:Nat×Nat):List (Nat×Nat)->List (Nat×Nat)
 |[]=>[a]
 |b::l=>if a.1<b.1 then a::b::l else b::Xl a l
theorem JR{a b:Nat×Nat}{l:List (Nat×Nat)}:b∈Xl a l↔b=a\/b∈l:=by
 induction l with
 |nil=>simp[Xl]
 |cons c l ih=>
  simp only[Xl]
  split
  . simp
  . rw[List.mem_cons,ih,List.mem_cons];constructor
    . rintro(h|h|h)
      . exact .inr (.inl h)
      . exact .inl h
      . exact .inr (.inr h)
    . rintro(h|h|h)
      . exact .inr (.inl h)
      . exact .inl h
      . exact .inr (.inr h)
theorem KG(a:Nat×Nat)(l:List (Nat×Nat)):zU (Xl a l)=a.1^a.2*zU l:=by
 induction l with
 |nil=>simp[Xl,zU]
 |cons c l ih=>
  simp only[Xl]
  split
  . rfl
  . simp only[zU];rw[ih,Nat.mul_left_comm]
theorem zdP{a:Nat×Nat}{l:List (Nat×Nat)}(h:l.Pairwise (fun a b=>a.1<b.1))(hn:∀b∈l,b.1≠a.1):(Xl a l).Pairwise (fun a b=>a.1<b.1):=by
 induction l with
 |nil=>simp[Xl]
 |cons c l ih=>
  rw[List.pairwise_cons]at h;simp only[Xl]
  split
  . rename_i hac;rw[List.pairwise_cons];refine⟨fun b hb=>?_,List.pairwise_cons.2 h⟩;rw[List.mem_cons]at hb;rcases hb with hb|hb
    . subst hb;exact hac
    . have:=h.1 b hb;omega
  . rename_i hac;rw[List.pairwise_cons];refine⟨fun b hb=>?_,ih h.2 fun b hb=>hn b (List.mem_cons_of_mem _ hb)⟩;rw[JR]at hb;rcases hb with hb|hb
    . subst hb;have:=hn c (List.mem_cons_self ..);omega
    . exact h.1 b hb
theorem Factors.ins{p k m:Nat}{l:List (Nat×Nat)}(h:Factors m l)(hp:IsPr p)(hk:1<=k)(hn:¬p∣m):Factors (p^k*m) (Xl (p,k) l):=by
 refine⟨by rw[KG,h.prod],zdP h.inc fun b hb he=>?_,fun a ha=>?_⟩
 . have h1:=jd hb (h.pr b hb).2;rw[h.prod]at h1;simp only at he;rw[he]at h1;exact hn h1
 . rw[JR]at ha;rcases ha with ha|ha
   . subst ha;exact⟨hp,hk⟩
   . exact h.pr a ha
theorem X6:∀{n:Nat},1<=n->∃l,Factors n l:=by
 intro n;induction n using Nat.strongRecOn with
 |_ n ih=>
  intro hn;by_cases h1:n=1
  . subst h1;exact⟨[],rfl,List.Pairwise.nil,by simp⟩
  . obtain⟨p,hp,hd⟩:=zaX (show 2<=n by omega);obtain⟨k,m,he,hnd,hm⟩:=zcs hp.1 hn;have hk:1<=k:=by
     rcases Nat.eq_zero_or_pos k with h0|h0
     . subst h0;rw[Nat.pow_zero,Nat.one_mul]at he;rw[he]at hd;exact absurd hd hnd
     . exact h0
    have hlt:m<n:=by
     have h2:2<=p^k:=Nat.le_trans hp.1 (by have:=Nat.pow_le_pow_right (show 0<p by have:=hp.1;omega) hk;rwa [Nat.pow_one]at this);have:=Nat.mul_le_mul_right m h2;omega
    obtain⟨l,hl⟩:=ih m hlt hm;exact⟨_,by rw[he];exact hl.ins hp hk hnd⟩
def zfV(g:Nat->Nat->Int):List (Nat×Nat)->Int
 |[]=>1
 |a::l=>g a.1 a.2*zfV g l
noncomputable def zaY(n:Nat):List (Nat×Nat):=Classical.epsilon (Factors n)
theorem zct{n:Nat}(hn:1<=n):Factors n (zaY n):=Classical.epsilon_spec (X6 hn)
theorem zbA{n:Nat}{l:List (Nat×Nat)}(h:Factors n l):zaY n=l:=(zct h.pos).uniq h
noncomputable def zfI(g:Nat->Nat->Int)(n:Nat):Int:=zfV g (zaY n)
def zgf(f:Nat->Int)(l:List Nat):Int:=(l.map f).sum
def sd(f:Nat->Int)(n:Nat):Int:=zgf f (zf9 n)
def zgg(g:Nat->Nat->Int)(p:Nat):Nat->Int
 |0=>1
 |k+1=>zgg g p k+g p (k+1)
def zgh(p k:Nat):Int:=(p:Int)^(k-1)*((p:Int)-1)
def muG(_ k:Nat):Int:=if k=1 then -1 else 0
noncomputable def phi(n:Nat):Int:=zfI zgh n
noncomputable def mu(n:Nat):Int:=zfI muG n
def pwm(a:Int)(n:Nat)(m:Int):Int:=a^n%m
def leg(a:Int)(p:Nat):Int:=if pwm a ((p-1) / 2) p=0 then 0 else if pwm a ((p-1) / 2) p=1 then 1 else -1
def zge(a:Int)(p k:Nat):Int:=leg a p^k
noncomputable def jac(a:Int)(n:Nat):Int:=zfI (zge a) n
def IsTwo(n x y:Nat):Prop:=x<=y/\x*x+y*y=n/\∀u v,u<x->u<=v->u*u+v*v≠n
def zgs(n:Nat):Prop:=∀u v,u<=v->u*u+v*v≠n
theorem IsTwo.uniq{n x y u v:Nat}(h:IsTwo n x y)(k:IsTwo n u v):x=u/\y=v:=by
 have hxu:x=u:=by
  rcases Nat.lt_trichotomy x u with h1|h1|h1
  . exact absurd h.2.1 (k.2.2 x y h1 h.1)
  . exact h1
  . exact absurd k.2.1 (h.2.2 u v h1 k.1)
 subst hxu;refine⟨rfl,?_⟩;have h1:=h.2.1;have h2:=k.2.1;rcases Nat.lt_trichotomy y v with h3|h3|h3
 . have:=Nat.mul_lt_mul_of_lt_of_le h3 (Nat.le_of_lt h3) (by omega);omega
 . exact h3
 . have:=Nat.mul_lt_mul_of_lt_of_le h3 (Nat.le_of_lt h3) (by omega);omega
def hbit(w k:Nat):Nat:=w / 2^k%2
def Jf(at':Nat):Bool:=decide (at' &&& (at'-1)=0)
def k9:Nat->Nat->Nat
 |0,_=>0
 |k+1,w=>if hbit w k=1 then k9 k w ^^^ (k+1) else k9 k w
def hsum(w:Nat):Nat:=k9 15 w
theorem zdh(k w:Nat)(hk:k<=15):k9 k w<16:=by
 induction k with
 |zero=>simp[k9]
 |succ k ih=>
  simp only[k9]
  split
  . exact Nat.xor_lt_two_pow (n:=4) (ih (by omega)) (by omega)
  . exact ih (by omega)
theorem Qr(x k:Nat):hbit x k=0\/hbit x k=1:=Nat.mod_two_eq_zero_or_one _
def ZQ:Nat->Nat->Nat×Nat
 |0,d=>(0,d)
 |k+1,d=>if Jf (k+1)=true then ZQ k d else((ZQ k d).1 ||| ((ZQ k d).2%2)*2^k,(ZQ k d).2 / 2)
def vI:Nat->Nat->Nat->Nat
 |0,_,w=>w
 |j+1,s,w=>if s &&& 2^j≠0 then vI j s w ||| 2^(2^j-1) else vI j s w
def jY(d:Nat):Nat:=vI 4 (hsum (ZQ 15 d).1) (ZQ 15 d).1
def zbZ:Nat->Nat->Nat×Nat
 |0,_=>(0,0)
 |k+1,w=>if Jf (k+1)=true then zbZ k w else((zbZ k w).1 ||| hbit w k*2^(zbZ k w).2,(zbZ k w).2+1)
def jZ(w:Nat):Nat:=(zbZ 15 w).1
def ja:List Nat:=[3,5,6,7,9,10,11,12,13,14,15]
def Qs:Nat->Nat->Nat
 |0,_=>0
 |k+1,w=>Qs k w ||| hbit w (ja.getD k 0-1)*2^k
theorem Jg(w:Nat):Qs 11 w=jZ w:=by
 have p:∀k,k<15->Jf (k+1)=decide (k=0\/k=1\/k=3\/k=7):=by
  have H:∀k:Fin 15,Jf (k.val+1)=decide (k.val=0\/k.val=1\/k.val=3\/k.val=7):=by decide+kernel
  exact fun k hk=>H ⟨k,hk⟩
 simp[jZ,zbZ,p,Qs,ja]
theorem YA:∀d:Fin 2048,(jY d.val<32768/\hsum (jY d.val)=0)/\jZ (jY d.val)=d.val:=by decide+kernel
theorem zbm{d:Nat}(h:d<2048):jY d<32768/\hsum (jY d)=0/\jZ (jY d)=d:=
 ⟨(YA ⟨d,h⟩).1.1,(YA ⟨d,h⟩).1.2,(YA ⟨d,h⟩).2⟩
def zgy(w k:Nat):Nat:=if k=0 then w else w ^^^ 2^(k-1)
def zfp(w:Nat):Bool:= !(hsum w==0)||jY (jZ w)==w
theorem zcv:∀x:Fin 128,∀y:Fin 256,zfp (256*x.val+y.val)=true:=by decide+kernel
theorem zfW{w:Nat}(h:w<32768)(h0:hsum w=0):jY (jZ w)=w:=by
 have:=zcv ⟨w / 256,by omega⟩ ⟨w%256,by omega⟩;have e:256*(w / 256)+w%256=w:=by omega
 rw[show 256*(⟨w / 256,by omega⟩:Fin 128).val+(⟨w%256,by omega⟩:Fin 256).val=w from e]at this;unfold zfp at this;rw[h0]at this;simpa using this
end Go.Proofs.YtmgfbmkfomebcaaGreatDoor
namespace Go.Proofs.YtmgfbmkfomebcaaGreatDoor
open Go.RowKit
theorem zH{p:Prop}(h:p):Hid p:=h
theorem zc2{W:World}{B:Nat}{a b:Value}{l:List Value}{t:TypeId}{fr:Nat×Nat}(h:W.heap[B]?=some (.cells (List.toArray (a::b::l)) t fr)):W.cell? ⟨B,0,none⟩=some a/\W.cell? ⟨B,1,none⟩=some b:=by simp[World.cell?,h]
theorem zf2{W:World}{B:Nat}{cs:Array Value}{t:TypeId}(h:W.heap[B]?=some (.cells cs t (0,0))):W.frozen? ⟨B,0,none⟩=false/\W.frozen? ⟨B,1,none⟩=false:=by simp[World.frozen?,h]
theorem zc4{W:World}{B:Nat}{a b c d:Value}{l:List Value}{t:TypeId}{fr:Nat×Nat}(h:W.heap[B]?=some (.cells (List.toArray (a::b::c::d::l)) t fr)):W.cell? ⟨B,0,none⟩=some a/\W.cell? ⟨B,1,none⟩=some b/\W.cell? ⟨B,2,none⟩=some c/\W.cell? ⟨B,3,none⟩=some d:=by simp[World.cell?,h]
theorem zf4{W:World}{B:Nat}{cs:Array Value}{t:TypeId}(h:W.heap[B]?=some (.cells cs t (0,0))):W.frozen? ⟨B,0,none⟩=false/\W.frozen? ⟨B,1,none⟩=false/\W.frozen? ⟨B,2,none⟩=false/\W.frozen? ⟨B,3,none⟩=false:=by simp[World.frozen?,h]
theorem zc5{W:World}{B:Nat}{a b c d e:Value}{l:List Value}{t:TypeId}{fr:Nat×Nat}(h:W.heap[B]?=some (.cells (List.toArray (a::b::c::d::e::l)) t fr)):W.cell? ⟨B,0,none⟩=some a/\W.cell? ⟨B,1,none⟩=some b/\W.cell? ⟨B,2,none⟩=some c/\W.cell? ⟨B,3,none⟩=some d/\W.cell? ⟨B,4,none⟩=some e:=by simp[World.cell?,h]
theorem zf5{W:World}{B:Nat}{cs:Array Value}{t:TypeId}(h:W.heap[B]?=some (.cells cs t (0,0))):W.frozen? ⟨B,0,none⟩=false/\W.frozen? ⟨B,1,none⟩=false/\W.frozen? ⟨B,2,none⟩=false/\W.frozen? ⟨B,3,none⟩=false/\W.frozen? ⟨B,4,none⟩=false:=by simp[World.frozen?,h]
theorem zc7{W:World}{B:Nat}{a b c d e f g:Value}{l:List Value}{t:TypeId}{fr:Nat×Nat}(h:W.heap[B]?=some (.cells (List.toArray (a::b::c::d::e::f::g::l)) t fr)):W.cell? ⟨B,0,none⟩=some a/\W.cell? ⟨B,1,none⟩=some b/\W.cell? ⟨B,2,none⟩=some c/\W.cell? ⟨B,3,none⟩=some d/\W.cell? ⟨B,4,none⟩=some e/\W.cell? ⟨B,5,none⟩=some f/\W.cell? ⟨B,6,none⟩=some g:=by simp[World.cell?,h]
theorem zf7{W:World}{B:Nat}{cs:Array Value}{t:TypeId}(h:W.heap[B]?=some (.cells cs t (0,0))):W.frozen? ⟨B,0,none⟩=false/\W.frozen? ⟨B,1,none⟩=false/\W.frozen? ⟨B,2,none⟩=false/\W.frozen? ⟨B,3,none⟩=false/\W.frozen? ⟨B,4,none⟩=false/\W.frozen? ⟨B,5,none⟩=false/\W.frozen? ⟨B,6,none⟩=false:=by simp[World.frozen?,h]
theorem vH{k:IntKind}{a b:Int}(h:a=b):Ending.returned (.int k a)=.returned (.int k b):=by rw[h]
theorem qi{a b:Bool}(h:a=b):Ending.returned (.bool a)=.returned (.bool b):=by rw[h]
theorem yY{P:Program}{f:FuncId}{args:Array Value}{w:World}{a n:Nat}{v:Value}
 (h:∀W:World,Calls P f args W fun e w'=>e=.returned v/\∃m,w'=W.drewN m):
 Calls P f args (w.drewN (a+n)) fun e w''=>e=.returned v/\∃m,w''=w.drewN (a+m):=
 (h _).mono fun _ _ ⟨he,m,hm⟩=>⟨he,n+m,by rw[hm,World.drewN_drewN,Nat.add_assoc]⟩
theorem zea{P:Program}{f:FuncId}{args:Array Value}{w:World}{n:Nat}{v:Value}
 (h:∀W:World,Calls P f args W fun e w'=>e=.returned v/\∃m,w'=W.drewN m):
 Calls P f args (w.drewN n) fun e w''=>e=.returned v/\∃m,w''=w.drewN m:=
 (h _).mono fun _ _ ⟨he,m,hm⟩=>⟨he,n+m,by rw[hm,World.drewN_drewN]⟩
theorem dr2(w:World)(n m:Nat):∃k,(w.drewN n).drewN m=w.drewN k:=⟨_,World.drewN_drewN ..⟩
theorem kC{fn:Func}{t u v x:Tmp}(h:fn.results=#[.tmp t,.tmp u,.tmp v,.tmp x])(tmps:Array Value)(P:Program)(w:World):
 (results fn tmps).run P w=.ok (.tuple #[tmps.getD t undef,tmps.getD u undef,tmps.getD v undef,tmps.getD x undef]) w:=by simp[results,h]
theorem zg{B:Nat}{a w:World}(h:Below B a w)(n:Nat):Below B a (w.drewN n):=⟨h.os,h.tape,h.output,h.size,h.block⟩
theorem yc(B:Nat)(w:World)(n:Nat):Below B w (w.drewN n):=zg (Below.refl B w) n
theorem kG(a:Nat)(ha:a<9223372036854775808):(BitVec.ofInt 64 (a:Int)).toNat=a:=by
 rw[BitVec.ofInt_natCast,BitVec.toNat_ofNat];exact Nat.mod_eq_of_lt (by omega)
theorem vr(a b:Nat)(ha:a<9223372036854775808)(hb:b<9223372036854775808):bits .and .i64 (a:Int) (b:Int)=((a &&& b:Nat):Int):=by
 have hx:a &&& b<2^63:=Nat.and_lt_two_pow _ (by omega);show IntKind.i64.wrap ((BitVec.ofInt 64 (a:Int) &&& BitVec.ofInt 64 (b:Int)).toNat:Int)=_;rw[BitVec.toNat_and,kG a ha,kG b hb];exact IntWalk.i64_in _ (by omega)
theorem zbc(a b:Nat)(ha:a<9223372036854775808)(hb:b<9223372036854775808):bits .or .i64 (a:Int) (b:Int)=((a ||| b:Nat):Int):=by
 have hx:a ||| b<2^63:=Nat.or_lt_two_pow (by omega) (by omega)
 show IntKind.i64.wrap ((BitVec.ofInt 64 (a:Int) ||| BitVec.ofInt 64 (b:Int)).toNat:Int)=_;rw[BitVec.toNat_or,kG a ha,kG b hb];exact IntWalk.i64_in _ (by omega)
theorem qj(a b:Nat)(ha:a<9223372036854775808)(hb:b<9223372036854775808):bits .xor .i64 (a:Int) (b:Int)=((a ^^^ b:Nat):Int):=by
 have hx:a ^^^ b<2^63:=Nat.xor_lt_two_pow (by omega) (by omega);show IntKind.i64.wrap ((BitVec.ofInt 64 (a:Int) ^^^ BitVec.ofInt 64 (b:Int)).toNat:Int)=_;rw[BitVec.toNat_xor,kG a ha,kG b hb];exact IntWalk.i64_in _ (by omega)
theorem kh(a:Nat)(ha:a<9223372036854775808):bits .and .i64 (a:Int) 1=((a%2:Nat):Int):=by
 have:=vr a 1 ha (by omega);rw[Nat.and_one_is_mod]at this;exact this
theorem Ks(x:Int)(h0:0<=x)(h1:x<4294967296):IntKind.u32.wrap x=x:=by
 simp only[IntKind.wrap,IntKind.signed,IntKind.bits];simp;omega
theorem kE(a:Nat)(ha:a<4294967296):(BitVec.ofInt 32 (a:Int)).toNat=a:=by
 rw[BitVec.ofInt_natCast,BitVec.toNat_ofNat];exact Nat.mod_eq_of_lt (by omega)
theorem Jw(a b:Nat)(ha:a<4294967296)(hb:b<4294967296):bits .and .u32 (a:Int) (b:Int)=((a &&& b:Nat):Int):=by
 have hx:a &&& b<2^32:=Nat.and_lt_two_pow _ (by omega);show IntKind.u32.wrap ((BitVec.ofInt 32 (a:Int) &&& BitVec.ofInt 32 (b:Int)).toNat:Int)=_;rw[BitVec.toNat_and,kE a ha,kE b hb];exact Ks _ (by omega) (by omega)
theorem zaN(a b:Nat)(ha:a<4294967296)(hb:b<4294967296):bits .or .u32 (a:Int) (b:Int)=((a ||| b:Nat):Int):=by
 have hx:a ||| b<2^32:=Nat.or_lt_two_pow (by omega) (by omega)
 show IntKind.u32.wrap ((BitVec.ofInt 32 (a:Int) ||| BitVec.ofInt 32 (b:Int)).toNat:Int)=_;rw[BitVec.toNat_or,kE a ha,kE b hb];exact Ks _ (by omega) (by omega)
theorem vX(a b:Nat)(ha:a<4294967296)(hb:b<4294967296):bits .xor .u32 (a:Int) (b:Int)=((a ^^^ b:Nat):Int):=by
 have hx:a ^^^ b<2^32:=Nat.xor_lt_two_pow (by omega) (by omega);show IntKind.u32.wrap ((BitVec.ofInt 32 (a:Int) ^^^ BitVec.ofInt 32 (b:Int)).toNat:Int)=_;rw[BitVec.toNat_xor,kE a ha,kE b hb];exact Ks _ (by omega) (by omega)
end Go.Proofs.YtmgfbmkfomebcaaGreatDoor
namespace Go.Proofs.YtmgfbmkfomebcaaGreatDoor
def zfs(a:Nat):Nat->Nat
 |0=>0
 |k+1=>zfs a k+(a / 2^k%2)
def KW(a:Nat):Nat:=zfs a 16
end Go.Proofs.YtmgfbmkfomebcaaGreatDoor
namespace Go.Proofs.YtmgfbmkfomebcaaGreatDoor
open Go.RowKit
end Go.Proofs.YtmgfbmkfomebcaaGreatDoor
namespace Go.Proofs.YtmgfbmkfomebcaaGreatDoor
def za1(x:Nat):Nat:=(x / 2 &&& 6148914691236517205)+(x &&& 6148914691236517205)
def zcy(x:Nat):Nat:=(x / 4 &&& 3689348814741910323)+(x &&& 3689348814741910323)
def zdW(x:Nat):Nat:=(x / 16+x) &&& 1085102592571150095
def ze9(x:Nat):Nat:=x+x / 256
def zfJ(x:Nat):Nat:=x+x / 65536
def zfX(x:Nat):Nat:=x+x / 4294967296
def zgt(x:Nat):Bool:=
 decide (za1 x<1000000000)&&decide (zcy (za1 x)<1000000000)&&decide (zdW (zcy (za1 x))<1000000000)&&decide (ze9 (zdW (zcy (za1 x)))<1000000000)&&
 decide (zfJ (ze9 (zdW (zcy (za1 x))))<1000000000)&&decide (zfX (zfJ (ze9 (zdW (zcy (za1 x)))))<1000000000)&&decide (zfX (zfJ (ze9 (zdW (zcy (za1 x))))) &&& 127=KW x)
end Go.Proofs.YtmgfbmkfomebcaaGreatDoor
namespace Go.Proofs.YtmgfbmkfomebcaaGreatDoor
open Go.RowKit
def Reads(w:World)(ao:Option Addr)(xs:List Value):Prop:=
 ∀(j:Nat) (u:Value),xs[j]?=some u->∃b o,ao=some ⟨b,o,none⟩/\w.cell? ⟨b,o+j,none⟩=some u
theorem Reads.below{w w':World}{ao:Option Addr}{xs:List Value}(h:Reads w ao xs)(hb:Below w.heap.size w w'):Reads w' ao xs:=by
 intro j u hu;obtain⟨b,o,ha,hc⟩:=h j u hu;exact⟨b,o,ha,(hb.cell (World.block_lt_of_cell? w _ hc)).trans hc⟩
theorem Reads.nil(w:World)(ao:Option Addr):Reads w ao []:=by intro j u h;simp at h
theorem Reads.drew{w:World}{ao:Option Addr}{xs:List Value}(h:Reads w ao xs)(n:Nat):Reads (w.drewN n) ao xs:=h
theorem yK(w:World)(xs:Array Value)(e:TypeId):Reads (w.alloc (.cells xs e)) (some ⟨w.heap.size,0,none⟩) xs.toList:=by
 intro j u hu;refine⟨w.heap.size,0,rfl,?_⟩;rw[Nat.zero_add,cell_of_row (w.alloc (.cells xs e)) w.heap.size j xs e (0,0) (heap_alloc_new w _)];simpa using hu
theorem Reads.alloc{w:World}{ao:Option Addr}{xs:List Value}(h:Reads w ao xs)(o:Obj):Reads (w.alloc o) ao xs:=
 h.below ((Below.refl _ _).alloc (Nat.le_refl _) _)
theorem Reads.grown{w w':World}{ao:Option Addr}{xs:List Value}{row:Option Nat}(h:Reads w ao xs)(hg:w.grownBy w' row)(hne:∀a,ao=some a->some a.block≠row):Reads w' ao xs:=by
 intro j u hu;obtain⟨b,o,ha,hc⟩:=h j u hu;exact⟨b,o,ha,hg.cell hc (hne ⟨b,o,none⟩ ha)⟩
def yb(P:Program)(e:TypeId)(z:Value)(size bytes:Nat):Prop:=∃i,P.info? e=some i/\i.zero=some z/\i.size=size/\i.bytes=bytes/\z.cells.size=size/\0<size
theorem yf{P:Program}{e:TypeId}{z:Value}{size bytes:Nat}(h:(P.info? e).map (fun i=>(i.zero,i.size,i.bytes))=some (some z,size,bytes))(hz:z.cells.size=size)(hs:0<size):yb P e z size bytes:=by
 obtain⟨i,h1,h2,h3,h4⟩:=info_parts h;exact⟨i,h1,h2,h3,h4,hz,hs⟩
theorem zQ{w w':World}{base:Nat}{row:Option Nat}(hg:w.grownBy w' row)(hb:base<=w.heap.size)(hr:∀k,row=some k->base<=k):Below base w w':=
 (Below.refl base w).grown hg hb hr
theorem yr{P:Program}{w:World}{ops:Array Oper}{rest:List Oper}{o:Oper}{a:Act}{Q:Exit->Act->World->Prop}(hgd:o.guard=none)(s x:Operand)(t:TypeId)
 (ho:o.op=.call {callee:=.builtin .append,args:=#[s,x],argTypes:=#[t,t]})
 (base:Nat)(e:TypeId)(z:Value)(size bytes:Nat)(ht:P.underlying t=some (.slice e))(hE:yb P e z size bytes)
 (v:Value)(n:Nat)(xs:List Value)(hs:a.eval s=v)(hown:w.ownsRow base e size v n xs)
 (news:List Value)(hx:a.eval x=.slice (some ⟨w.heap.size,0,none⟩) 1 1)(hl:news.length=size)(h1:∀u∈news,u.oneCell'=true)
 (h63:n+1<=maxLen)(hbytes:(n+1)*bytes<=140737488355328)(hbase:base<=w.heap.size)
 (h:∀v' w',w'.ownsRow base e size v' (n+1) (xs++news)->(w.alloc (.cells news.toArray e)).grownBy w' v.ownBlock->Below base w w'->wpList P ops Q rest (a.put o.dst v') w'):
 wpList P ops Q (o::rest) a (w.alloc (.cells news.toArray e)):=by
 obtain⟨i,hi,hz,hsize,hby,hzs,hsz⟩:=hE;refine wpList_append_own _ hgd s x t ho base e i z size bytes ht hi hz hsize hby hzs hsz v n xs hs (hown.alloc _) ⟨w.heap.size,0,none⟩ 1 1 news hx (by omega) ?_ h1 h63 hbytes (by rw[World.size_alloc];omega) ?_
 . intro j u hu;obtain⟨b,o2,ha,hc⟩:=yK w news.toArray e j u (by simpa using hu);simp only[Option.some.injEq,Addr.mk.injEq,and_true]at ha;obtain⟨rfl,rfl⟩:=ha;rw[Addr.add_lit];exact hc
 . intro v' w' h2 h3 _;refine h v' w' h2 h3 (((Below.refl base w).alloc hbase _).grown h3 (by rw[World.size_alloc];omega) fun k hk=>(hown.lt k hk).1)
theorem Qh{P:Program}{w:World}{ops:Array Oper}{rest:List Oper}{o:Oper}{a:Act}{Q:Exit->Act->World->Prop}(hgd:o.guard=none)(s x:Operand)(t:TypeId)
 (ho:o.op=.call {callee:=.builtin .append,args:=#[s,x],argTypes:=#[t,t]})
 (base:Nat)(e:TypeId)(z:Value)(size bytes:Nat)(ht:P.underlying t=some (.slice e))(hE:yb P e z size bytes)
 (v:Value)(n:Nat)(xs:List Value)(hs:a.eval s=v)(hown:w.ownsRow base e size v n xs)
 (ao:Option Addr)(m c:Nat)(news:List Value)(hx:a.eval x=.slice ao m c)(hnone:ao=none->m=0/\c=0)(hl:news.length=m*size)(hR:Reads w ao news)(h1:∀u∈news,u.oneCell'=true)
 (h63:n+m<=maxLen)(hbytes:(n+m)*bytes<=140737488355328)(hbase:base<=w.heap.size)
 (h:∀v' w',w'.ownsRow base e size v' (n+m) (xs++news)->w.grownBy w' v.ownBlock->Below base w w'->wpList P ops Q rest (a.put o.dst v') w'):
 wpList P ops Q (o::rest) a w:=by
 obtain⟨i,hi,hz,hsize,hby,hzs,hsz⟩:=hE;have key:∀ad,ao=some ad->(∀j u,news[j]?=some u->w.cell? (ad.add j)=some u)->wpList P ops Q (o::rest) a w:=by
  intro ad had hnews;subst had;refine wpList_append_own _ hgd s x t ho base e i z size bytes ht hi hz hsize hby hzs hsz v n xs hs hown ad m c news hx hl hnews h1 h63 hbytes hbase ?_;intro v' w' h2 h3 _;exact h v' w' h2 h3 (zQ h3 hbase fun k hk=>(hown.lt k hk).1)
 cases ao with
 |none=>
  obtain⟨rfl,rfl⟩:=hnone rfl;have hn:news=[]:=List.eq_nil_of_length_eq_zero (by simpa using hl);subst hn;refine wpList_append_own_none hgd s x t ho base e i size ht hi v n xs hs hown hx ?_;have h4:=h v w (by simpa using hown) (World.grownBy.refl _ _) (Below.refl _ _);exact h4
 |some ad=>
  refine key ad rfl ?_;intro j u hu;obtain⟨b,o2,ha,hc⟩:=hR j u hu;cases ha;rw[Addr.add_lit];exact hc
theorem zcQ{P:Program}{w:World}{ops:Array Oper}{rest:List Oper}{o:Oper}{a:Act}{Q:Exit->Act->World->Prop}
 (hg:o.guard=none)(l c:Operand)(t:TypeId)(hop:o.op=Op.makeSlice t l c)
 (base:Nat)(e:TypeId)(z:Value)(size bytes:Nat)(h1:P.underlying t=some (.slice e))(hE:yb P e z size bytes)
 (kl kc:IntKind)(C:Int)(n:Nat)(hl:a.eval l=.int kl 0)(hc:a.eval c=.int kc C)(hC:C=(n:Int))(b2:bytes*n<=281474976710656)(b3:n<=maxLen)(b4:base<=w.heap.size)
 (hK:∀w',w'.ownsRow base e size (.slice (some ⟨w.heap.size,0,none⟩) 0 n) 0 []->w.grownBy w' none->wpList P ops Q rest (a.put o.dst (.slice (some ⟨w.heap.size,0,none⟩) 0 n)) w'):
 wpList P ops Q (o::rest) a w:=by
 obtain⟨i,hi,hz,hsize,hby,hzs,hsz⟩:=hE;exact wpList_make_own w hg l c t hop base e i z size h1 hi hz hsize kl kc C n hl hc hC (by rw[hby];exact b2) b3 b4 hK
theorem Qi{P:Program}{w:World}{ops:Array Oper}{rest:List Oper}{o:Oper}{a:Act}{Q:Exit->Act->World->Prop}
 (hg:o.guard=none)(l c:Operand)(t:TypeId)(hop:o.op=Op.makeSlice t l c)
 (base:Nat)(e:TypeId)(z:Value)(size bytes:Nat)(h1:P.underlying t=some (.slice e))(hE:yb P e z size bytes)
 (kl kc:IntKind)(L C:Int)(n:Nat)(hl:a.eval l=.int kl L)(hc:a.eval c=.int kc C)(hL:L=(n:Int))(hC:C=(n:Int))(b2:bytes*n<=281474976710656)(b3:n<=maxLen)(b4:base<=w.heap.size)
 (hK:∀w',w'.ownsRow base e size (.slice (some ⟨w.heap.size,0,none⟩) n n) n (madeCells z.cells (n*size)).toList->w.grownBy w' none->wpList P ops Q rest (a.put o.dst (.slice (some ⟨w.heap.size,0,none⟩) n n)) w'):
 wpList P ops Q (o::rest) a w:=by
 obtain⟨i,hi,hz,hsize,hby,hzs,hsz⟩:=hE;exact wpList_make_full w hg l c t hop base e i z size h1 hi hz hsize kl kc L C n hl hc hL hC (by rw[hby];exact b2) b3 b4 hK
theorem zr{w:World}{base:Nat}{e:TypeId}{size:Nat}{v:Value}{n:Nat}{xs:List Value}(h:w.ownsRow base e size v n xs):
 ∃ao cap,v=.slice ao n cap/\Reads w ao xs/\(ao=none->n=0/\cap=0)/\n<=maxLen:=by
 rcases h.2 with⟨rfl,rfl⟩|⟨g,cap,cur,hv,h2⟩
 . have hx:xs=[]:=List.eq_nil_of_length_eq_zero (by simpa using h.1);subst hx;exact⟨none,0,rfl,Reads.nil _ _,fun _=>⟨rfl,rfl⟩,by unfold maxLen;omega⟩
 . refine⟨_,cap,hv,?_,(by intro h;cases h),by have:=h2.2.2.1;have:=h2.2.2.2.1;omega⟩;intro j u hu;refine⟨g,0,rfl,?_⟩;have:=h.cells (g:=g) (by rw[hv];rfl) j u hu;rw[Addr.add_lit]at this;exact this
theorem zi{w w':World}{base:Nat}{e:TypeId}{size:Nat}{v:Value}{n:Nat}{xs:List Value}(h:w.ownsRow base e size v n xs)(hb:Below w.heap.size w w'):w'.ownsRow base e size v n xs:=by
 refine⟨h.1,?_⟩;rcases h.2 with hn|⟨g,cap,cur,rfl,hbg,hg,rest⟩
 . exact .inl hn
 . refine .inr ⟨g,cap,cur,rfl,hbg,?_,rest⟩;rw[hb.block g (Array.getElem?_eq_some_iff.1 hg).1];exact hg
theorem qm{w:World}{base base':Nat}{e:TypeId}{size:Nat}{v:Value}{n:Nat}{xs:List Value}(h:w.ownsRow base e size v n xs)(hb:base'<=base):w.ownsRow base' e size v n xs:=by
 refine⟨h.1,?_⟩;rcases h.2 with hn|⟨g,cap,cur,hv,hbg,rest⟩
 . exact .inl hn
 . exact .inr ⟨g,cap,cur,hv,by omega,rest⟩
end Go.Proofs.YtmgfbmkfomebcaaGreatDoor
