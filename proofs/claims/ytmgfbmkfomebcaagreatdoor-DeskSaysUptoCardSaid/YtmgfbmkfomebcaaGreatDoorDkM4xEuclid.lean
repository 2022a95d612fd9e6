/- Contracts of package euclid: each function returns what plain arithmetic says; the world stays but for draws. -/
import Derived.Test.YtmgfbmkfomebcaaGreatDoorRows
import Derived.WalkKit
import Derived.WalkSpells
import Derived.WalkLawsBesides
import Derived.Deep.QuietTactic
import Derived.BigQuiet
import Derived.Lib.Hide
import Derived.Handy
import Derived.Test.YtmgfbmkfomebcaaGreatDoorDkM2
import Derived.Test.YtmgfbmkfomebcaaGreatDoorDkM1
set_option linter.unusedVariables false
set_option linter.unusedSimpArgs false
set_option maxHeartbeats 1000000
namespace Go.Proofs.YtmgfbmkfomebcaaGreatDoor
open Go.RowKit
theorem zbe(a b:Int)(w:World)(ha: -1000000000<=a)(ha':a<=1000000000)(hb: -1000000000<=b)(hb':b<=1000000000):
 Calls Tryz.prog 98 #[.int .i64 a,.int .i64 b] w fun e w'=>e=.returned (.int .i64 (gI a b))/\∃n,w'=w.drewN n:=by
 go_enter Tryz.func98,Tryz.ntmps98
 go_wp2
 go_loopw [0,1] (fun x y wr=>∃c d:Int,x=.int .i64 c/\y=.int .i64 d/\Hid (Int.gcd c d=Int.gcd a b)/\ -1000000000<=c/\c<=1000000000/\ -1000000000<=d/\d<=1000000000/\∃n,wr=w.drewN n) (fun _ y _=>(intOf y).natAbs)
 case atStart=>exact⟨a,b,rfl,rfl,rfl,ha,ha',hb,hb',0,rfl⟩
 case round=>
  obtain⟨c,d,rfl,rfl,hg,hc,hc',hd,hd',n,rfl⟩:=hrel
  go_wp2
  . have h:(d !=0)=true:=by assumption
    have hd0:d≠0:=by simpa using h
    go_quiet (fail)
    go_wp2
    go_roundw
    case rel=>exact⟨d,c.tmod d,rfl,rfl,by have:=hg;unfold Hid at*;rw[Jq];exact this,hd,hd',(Ko c d _ ⟨hc,hc'⟩).1,(Ko c d _ ⟨hc,hc'⟩).2,dr2 _ _ _⟩
    case measure=>exact zex c d hd0
  all_goals
   have h:(d !=0)=false:=by assumption
   have hd0:d=0:=by simpa using h
   have hgo:=hg.out
   go_ret
   refine⟨?_,_,rfl⟩;unfold gI;rw[<-hgo,hd0]
   congr 2
   simp[Int.gcd];omega
theorem Vi(a:Int)(w:World)(h1: -1000000000<=a)(h2:a<=1000000000):
 Calls Tryz.prog 97 #[.int .i64 a] w fun e w'=>e=.returned (.bool true)/\w=w':=by
 have h3:decide (a<=1000000000)=true:=by simp;omega
 go_enter Tryz.func97,Tryz.ntmps97
 go_wp2
 go_ret
 exact⟨by simp[h2],rfl⟩
theorem XJ(a b:Int)(w:World)(ha: -1000000000<=a)(ha':a<=1000000000)(hb: -1000000000<=b)(hb':b<=1000000000):
 Calls Tryz.prog 60 #[.int .i64 a,.int .i64 b] w fun e w'=>e=.returned (.tuple #[.int .i64 (gI a b),.int .i64 0])/\∃n,w'=w.drewN n:=by
 go_enter Tryz.func60,Tryz.ntmps60
 go_wp2_with (first|(go_at_call 97;refine(Vi _ _ (by omega) (by omega)).mono ?_;rintro e w' ⟨rfl,rfl⟩)|(go_at_call 98;refine(zbe a b _ ha ha' hb hb').mono ?_;rintro e w' ⟨rfl,n,rfl⟩))
 go_ret2
 exact⟨rfl,_,rfl⟩
theorem XK(a m:Int)(w:World)(ha: -1000000000<=a)(ha':a<=1000000000)(hm:1<=m)(hm':m<=1000000000):
 Calls Tryz.prog 99 #[.int .i64 a,.int .i64 m] w fun e w'=>e=.returned (.int .i64 (a%m))/\∃n,w'=w.drewN n:=by
 have h1:=Ko a m 1000000000 ⟨ha,ha'⟩;have h2:0<=a.tmod m+m:=by have:=Int.lt_tmod_of_pos a (b:=m) (by omega);omega
 have hz:(m==0)=false:=by simp;omega
 go_enter Tryz.func99,Tryz.ntmps99
 go_wp2
 go_ret
 exact⟨vH (Kq a m hm),0,rfl⟩
theorem XL(a m:Int)(w:World)(ha: -1000000000<=a)(ha':a<=1000000000)(hm:1<=m)(hm':m<=1000000000)(hg:Hid (Int.gcd a m=1)):
 Calls Tryz.prog 61 #[.int .i64 a,.int .i64 m] w fun e w'=>e=.returned (.int .i64 (Vw a m))/\∃n,w'=w.drewN n:=by
 have h0:0<=a%m:=Int.emod_nonneg a (by omega);have h1:a%m<m:=Int.emod_lt_of_pos a (by omega);have HI:Hid (Inv (a%m) m (a%m) m 1 0):=Inv.start _ _ h0 (by omega) hm (by
  rw[Jr];exact hg.out)
 go_enter Tryz.func61,Tryz.ntmps61
 go_wp2_with (go_at_call 99;refine(XK a m _ ha ha' hm hm').mono ?_;rintro e w' ⟨rfl,n,rfl⟩)
 go_loopw [0,5,6,7] (fun va vx vy vb wr=>∃c x y d:Int,va=.int .i64 c/\vx=.int .i64 x/\vy=.int .i64 y/\vb=.int .i64 d/\Hid (Inv (a%m) m c d x y)/\∃n,wr=w.drewN n) (fun _ _ _ vb _=>(intOf vb).natAbs)
 case atStart=>exact⟨_,_,_,_,rfl,rfl,rfl,rfl,HI,_,rfl⟩
 case round=>
  obtain⟨c,x,y,d,rfl,rfl,rfl,rfl,hI,n,rfl⟩:=hrel;have hd0:=hI.out.b0';have hc0:=hI.out.a0';have hcm:=hI.out.am;have hdm:=hI.out.bm;have hxm:=hI.out.xm;have hym:=hI.out.ym;by_cases hd:d=0
  . subst hd;have hl:Hid (c=1/\m∣x*(a%m)-1):=hI.out.last;go_wp2_with (go_at_call 99;refine(XK x m _ (by omega) (by omega) hm hm').mono ?_;rintro e w' ⟨rfl,n2,rfl⟩)
    go_ret
    exact⟨vH (Qv (Q0 hm hl.out.2)).symm,_,rfl⟩
  . have hb:=hI.out.bounds hd hm';have hS:Hid (Inv (a%m) m d (c-c / d*d) y (x-c / d*y)):=hI.out.step hd;have hm2:Hid ((c-c / d*d).natAbs<d.natAbs):=by
     have:=Int.emod_lt_of_pos c (b:=d) (by omega);have h3:=Int.emod_nonneg c hd;have h4:=Int.emod_add_mul_ediv c d;rw[Int.mul_comm]at h4;show _<_;omega
    go_wp2
    go_roundw
    case rel=>exact⟨_,_,_,_,rfl,rfl,rfl,rfl,hS,_,rfl⟩
    case measure=>exact hm2.out
theorem Vj(a b:Int)(w:World)(ha: -1000000000<=a)(ha':a<=1000000000)(hb: -1000000000<=b)(hb':b<=1000000000):
 Calls Tryz.prog 35 #[.int .i64 a,.int .i64 b] w fun e w'=>e=.returned (.tuple #[.int .i64 (qc a b),.int .i64 (jp a b),.int .i64 (gI a b),.int .i64 0])/\∃n,w'=w.drewN n:=by
 by_cases h0:b=0
 . subst h0;have hy:Hid (jp a 0=0):=by show _=_;simp[jp]
   have hx1:Hid (0<a->qc a 0=1):=by show _->_=_;intro h;simp[qc,h]
   have hx2:Hid (a<0->qc a 0= -1):=by show _->_=_;intro h;simp[qc,h];omega
   have hx3:Hid (a=0->qc a 0=0):=by show _->_=_;intro h;simp[qc,h]
   go_enter Tryz.func35,Tryz.ntmps35
   go_wp2_with (go_at_call 60;refine(XJ a 0 _ ha ha' hb hb').mono ?_;rintro e w' ⟨rfl,n,rfl⟩)
   . have h:0<a:=by assumption
     go_wp2
     refine bodyPost_ret (kC rfl _ _ _) rfl ?_;exact⟨by rw[hx1.out h,hy.out];rfl,_,rfl⟩
   . have h:a<0:=by assumption
     go_wp2
     refine bodyPost_ret (kC rfl _ _ _) rfl ?_;exact⟨by rw[hx2.out h,hy.out];rfl,_,rfl⟩
   . have h:a<=0:=by assumption
     have h2:0<=a:=by assumption
     refine bodyPost_ret (kC rfl _ _ _) rfl ?_;exact⟨by rw[hx3.out (by omega),hy.out];rfl,_,rfl⟩
 . have hz:(b==0)=false:=by simpa using h0
   have S:BezSteps a b:=YK a b ha ha' hb hb' h0;have g1:=S.g1;have gm:=S.gm;have lo:=S.lo;have hi:=S.hi;have m1:=S.m1;have mm:=S.mm;have x0:=S.x0;have xm:=S.xm;have plo:=S.plo;have phi:=S.phi;have ylo:=S.ylo;have yhi:=S.yhi;go_enter Tryz.func35,Tryz.ntmps35
   go_wp2_with (go_at_call 60;refine(XJ a b _ ha ha' hb hb').mono ?_;rintro e w' ⟨rfl,n,rfl⟩)
   go_quiet ((go_at_call 61;exact yY (fun W=>XL _ _ W lo hi m1 mm S.gcd)))
   rw[S.x]
   go_wp2
   all_goals
    go_quiet (fail)
    go_wp2
    refine bodyPost_ret (kC rfl _ _ _) rfl ?_;exact⟨by rw[<-S.y];rfl,dr2 _ _ _⟩
def zgB(a b:Int):Int:=if a=0\/b=0 then 0 else max (a.tdiv (gI a b)*b) (-(a.tdiv (gI a b)*b))
def zeb:Nat->Nat->Nat->Nat
 |0,_,_=>0
 |f+1,a,b=>if b=0 then 0 else zeb f b (a%b)+1
def zgl(a b:Int):Int:=(zeb (b.toNat+1) a.toNat b.toNat:Int)
end Go.Proofs.YtmgfbmkfomebcaaGreatDoor
