/- Contracts of package rest (Of, Pow) and of the reference's rest and powers. -/
import Derived.Test.YtmgfbmkfomebcaaGreatDoorRows
import Derived.Test.YtmgfbmkfomebcaaGreatDoorDkM2
import Derived.Test.YtmgfbmkfomebcaaGreatDoorDkM4xEuclid
import Derived.Test.YtmgfbmkfomebcaaGreatDoorDkM3
set_option linter.unusedVariables false
set_option linter.unusedSimpArgs false
set_option maxHeartbeats 1000000
set_option maxRecDepth 20000
namespace Go.Proofs.YtmgfbmkfomebcaaGreatDoor
open Go.RowKit
theorem ze3(a m:Int)(w:World)(ha: -9223372036854775808<=a)(ha':a<=9223372036854775807)(hm:1<=m)(hm':m<=1000000):
 Calls Tryz.prog 63 #[.int .i64 a,.int .i64 m] w fun e w'=>e=.returned (.tuple #[.int .i64 (a%m),.int .i64 0])/\∃n,w'=w.drewN n:=by
 have h1: -1000000<=a.tmod m/\a.tmod m<=1000000:=by
  have:=Int.lt_tmod_of_pos a (b:=m) (by omega);have:=Int.tmod_lt_of_pos a (b:=m) (by omega);omega
 have h2:0<=a.tmod m+m:=by have:=Int.lt_tmod_of_pos a (b:=m) (by omega);omega
 have hz:(m==0)=false:=by simp;omega
 have hmz:¬m=0:=by omega
 have d1:decide (1000000<m)=false:=by simp;omega
 have hR:=zH (Kq a m hm);go_enter Tryz.func63,Tryz.ntmps63
 go_wp2
 go_ret2
 exact⟨by rw[<-hR.out];rfl,0,rfl⟩
theorem zdJ(a m:Int)(w:World)(ha: -9223372036854775808<=a)(ha':a<=9223372036854775807)(hm:1<=m)(hm':m<=1000000000):
 Calls Tryz.prog 109 #[.int .i64 a,.int .i64 m] w fun e w'=>e=.returned (.int .i64 (a%m))/\∃n,w'=w.drewN n:=by
 have hmz:¬m=0:=by omega
 have hz:(m==0)=false:=by simp;omega
 have l1:=Int.lt_tmod_of_pos a (b:=m) (by omega);have l2:=Int.tmod_lt_of_pos a (b:=m) (by omega);by_cases h:a.tmod m<0
 . have hR:Hid (a.tmod m+m=a%m):=by
    show _=_;have:=Kq a m hm;rw[Int.emod_eq_of_lt (by omega) (by omega)]at this;exact this
   go_enter Tryz.func109,Tryz.ntmps109
   go_wp2
   go_ret
   exact⟨vH hR.out,0,rfl⟩
 . have hR:Hid (a.tmod m=a%m):=by
    show _=_;have:=Kq a m hm;rw[Int.add_emod_right,Int.emod_eq_of_lt (by omega) (by omega)]at this;exact this
   go_enter Tryz.func109,Tryz.ntmps109
   go_wp2
   go_ret
   exact⟨vH hR.out,0,rfl⟩
theorem ze4(a m:Int)(w:World)(ha: -9223372036854775808<=a)(ha':a<=9223372036854775807)(hm:1<=m)(hm':m<=1000000000):
 Calls Tryz.prog 75 #[.int .i64 a,.int .i64 m] w fun e w'=>e=.returned (.int .i64 (a%m))/\∃n,w'=w.drewN n:=by
 go_enter Tryz.func75,Tryz.ntmps75
 go_wp2_with (go_at_call 109;refine(zdJ a m _ ha ha' hm hm').mono ?_;rintro e w' ⟨rfl,n,rfl⟩)
 go_ret
 exact⟨rfl,_,rfl⟩
def Tri(o:Int):Prop:=o=0\/o=1\/o= -1
def YF(a:Int)(p x:Nat):Prop:=x<p/\((x:Int)*x)%p=a%p/\∀y,y<x->((y:Int)*y)%p≠a%p
def YG(a:Int)(p:Nat):Prop:=∀y,y<p->((y:Int)*y)%p≠a%p
theorem zaJ(a:Int)(p:Nat):(∃x,YF a p x)\/YG a p:=by
 have key:∀m:Nat,(∃x:Nat,x<m/\((x:Int)*x)%p=a%p/\∀y:Nat,y<x->((y:Int)*y)%p≠a%p)\/∀y:Nat,y<m->((y:Int)*y)%p≠a%p:=by
  intro m;induction m with
  |zero=>right;intro y hy;omega
  |succ m ih=>
   rcases ih with⟨x,h1,h2,h3⟩|h
   . exact .inl ⟨x,by omega,h2,h3⟩
   . by_cases hm:((m:Int)*m)%p=a%p
     . exact .inl ⟨m,by omega,hm,h⟩
     . right;intro y hy;rcases Nat.lt_or_ge y m with h1|h1
       . exact h y h1
       . obtain rfl:y=m:=by omega
         exact hm
 rcases key p with⟨x,h1,h2,h3⟩|h
 . exact .inl ⟨x,h1,h2,h3⟩
 . exact .inr h
theorem YH(a:Int)(p:Nat)(w:World)(ha: -9223372036854775808<=a)(ha':a<=9223372036854775807)(hp1:1<=p)(hp:p<=1000000)(R:Int)
 (hR:Hid ((∃x:Nat,R=x/\YF a p x)\/(R= -1/\YG a p))):
 Calls Tryz.prog 44 #[.int .i64 a,.int .i64 p] w fun e w'=>e=.returned (.int .i64 R)/\∃m,w'=w.drewN m:=by
 have HM:=zH (fun W=>ze4 a p W ha ha' (by omega) (by omega));have hPI:¬((p:Int)=0):=by omega
 obtain⟨r,hr⟩:∃r,a%(p:Int)=r:=⟨_,rfl⟩
 rw[hr]at HM;have HRR:=zH hr;clear hr;go_enter Tryz.func44,Tryz.ntmps44
 go_wp2_with fail
 go_loopw [7] (fun vx wr=>∃x:Nat,vx=.int .i64 x/\x<=p/\Hid (∀y,y<x->((y:Int)*y)%p≠a%p)/\∃q,wr=w.drewN q) (fun vx _=>p-(intOf vx).toNat)
 case atStart=>exact⟨0,rfl,by omega,zH (by intro y hy;omega),0,rfl⟩
 case round=>
  obtain⟨x,rfl,hxp,hall,q,rfl⟩:=hrel;by_cases hx:x<p
  . have hsq:=XO x 1000000 (by omega);have wsq:IntKind.i64.wrap ((x:Int)*x)=(x:Int)*x:=IntWalk.i64_in _ (by omega);have tm:((x:Int)*x).tmod p=((x:Int)*x)%p:=Int.tmod_eq_emod_of_nonneg hsq.1;obtain⟨z,hz⟩:∃z,((x:Int)*x)%(p:Int)=z:=⟨_,rfl⟩
    have hzb:=Int.emod_nonneg ((x:Int)*x) (b:=(p:Int)) (by omega);have hzb2:=Int.emod_lt_of_pos ((x:Int)*x) (b:=(p:Int)) (by omega);rw[hz]at tm hzb hzb2;have HZ:=zH hz;have wz:IntKind.i64.wrap z=z:=IntWalk.i64_in _ (by omega);by_cases hzr:z=r
    . have hfin:Hid (R=x):=by
       rcases hR.out with⟨x',h1,h2⟩|⟨_,h2⟩
       . have:x=x':=by
          rcases Nat.lt_trichotomy x x' with h3|h3|h3
          . exact absurd (HZ.out.trans (hzr.trans HRR.out.symm)) (h2.2.2 x h3)
          . exact h3
          . exact absurd h2.2.1 (hall.out x' h3)
         rw[this];exact h1
       . exact absurd (HZ.out.trans (hzr.trans HRR.out.symm)) (h2 x hx)
      have dz:(z==r)=true:=by simpa using hzr
      clear hzr;go_wp2_with fail
      go_quiet ((go_at_call 75;exact yY (fun W=>HM.out W)))
      go_wp2_with fail
      go_ret
      exact⟨by rw[hfin.out];rfl,_,World.drewN_drewN _ _ _⟩
    . have dz:(z==r)=false:=by simpa using hzr
      have hall2:Hid (∀y,y<x+1->((y:Int)*y)%p≠a%p):=by
       intro y hy;rcases Nat.lt_or_ge y x with h|h
       . exact hall.out y h
       . obtain rfl:y=x:=by omega
         intro h;exact hzr (HZ.out.symm.trans (h.trans HRR.out))
      clear hzr;go_wp2_with fail
      go_quiet ((go_at_call 75;exact yY (fun W=>HM.out W)))
      go_wp2_with fail
      go_roundw
      case rel=>exact⟨x+1,by go_num,by omega,hall2,_,rfl⟩
      case measure=>simp[intOf];omega
  . have hfin:Hid (R= -1):=by
     rcases hR.out with⟨x',h1,h2⟩|⟨h1,_⟩
     . exact absurd h2.2.1 (hall.out x' (by have:=h2.1;omega))
     . exact h1
    go_wp2_with fail
    go_ret
    exact⟨by rw[hfin.out];rfl,q,rfl⟩
theorem ZA(a:Int)(p:Nat)(w:World)(ha: -9223372036854775808<=a)(ha':a<=9223372036854775807)(hpr:IsPr p)(hp:p<=1000000)(R E:Int)
 (hR:Hid ((∃x:Nat,R=x/\E=0/\YF a p x)\/(R=0/\E=4/\YG a p))):
 Calls Tryz.prog 38 #[.int .i64 a,.int .i64 p] w fun e w'=>e=.returned (.tuple #[.int .i64 R,.int .i64 E])/\∃m,w'=w.drewN m:=by
 have hp1:2<=p:=hpr.1;have HI:=zH (zar p w hp);rw[Qo hpr]at HI;have HO:=zH (fun W=>ze3 a p W ha ha' (by omega) (by omega));have hPI:¬((p:Int)=0):=by omega
 obtain⟨r,hr⟩:∃r,a%(p:Int)=r:=⟨_,rfl⟩
 rw[hr]at HO;have HRR:=zH hr;clear hr hpr;go_enter Tryz.func38,Tryz.ntmps38
 go_wp2_with fail
 refine HI.out.mono ?_;rintro e w' ⟨rfl,rfl⟩;go_wp2_with fail
 refine(HO.out _).mono ?_;rintro e w' ⟨rfl,m0,rfl⟩;go_wp2_with fail
 go_loop [27] (fun vx=>∃x:Nat,vx=.int .i64 x/\x<=p/\Hid (∀y,y<x->((y:Int)*y)%p≠a%p)) (fun vx=>p-(intOf vx).toNat)
 case atStart=>exact⟨0,rfl,by omega,zH (by intro y hy;omega)⟩
 case round=>
  obtain⟨x,rfl,hxp,hall⟩:=hrel;by_cases hx:x<p
  . have hsq:=XO x 1000000 (by omega);have wsq:IntKind.i64.wrap ((x:Int)*x)=(x:Int)*x:=IntWalk.i64_in _ (by omega);obtain⟨z,hz⟩:∃z,((x:Int)*x)%(p:Int)=z:=⟨_,rfl⟩
    have tm:((x:Int)*x).tmod p=z:=by rw[Int.tmod_eq_emod_of_nonneg hsq.1,hz]
    have hzb:=Int.emod_nonneg ((x:Int)*x) (b:=(p:Int)) (by omega);have hzb2:=Int.emod_lt_of_pos ((x:Int)*x) (b:=(p:Int)) (by omega);rw[hz]at hzb hzb2;have HZ:=zH hz;have wz:IntKind.i64.wrap z=z:=IntWalk.i64_in _ (by omega);by_cases hzr:z=r
    . have hfin:Hid (R=x/\E=0):=by
       rcases hR.out with⟨x',h1,h0,h2⟩|⟨_,_,h2⟩
       . have:x=x':=by
          rcases Nat.lt_trichotomy x x' with h3|h3|h3
          . exact absurd (HZ.out.trans (hzr.trans HRR.out.symm)) (h2.2.2 x h3)
          . exact h3
          . exact absurd h2.2.1 (hall.out x' h3)
         rw[this];exact⟨h1,h0⟩
       . exact absurd (HZ.out.trans (hzr.trans HRR.out.symm)) (h2 x hx)
      have dz:(z==r)=true:=by simpa using hzr
      clear hzr;go_wp2_with fail
      go_ret2
      exact⟨by rw[hfin.out.1,hfin.out.2];rfl,_,rfl⟩
    . have dz:(z==r)=false:=by simpa using hzr
      have hall2:Hid (∀y,y<x+1->((y:Int)*y)%p≠a%p):=by
       intro y hy;rcases Nat.lt_or_ge y x with h|h
       . exact hall.out y h
       . obtain rfl:y=x:=by omega
         intro h;exact hzr (HZ.out.symm.trans (h.trans HRR.out))
      clear hzr;go_wp2_with fail
      go_round
      case rel=>exact⟨x+1,by go_num,by omega,hall2⟩
      case measure=>simp[intOf];omega
  . have hfin:Hid (R=0/\E=4):=by
     rcases hR.out with⟨x',h1,_,h2⟩|⟨h1,h0,_⟩
     . exact absurd h2.2.1 (hall.out x' (by have:=h2.1;omega))
     . exact⟨h1,h0⟩
    go_wp2_with fail
    go_ret2
    exact⟨by rw[hfin.out.1,hfin.out.2];rfl,_,rfl⟩
theorem ZR(a p:Int)(w:World)(h:p<2\/1000000<p\/¬IsPr p.toNat):
 Calls Tryz.prog 38 #[.int .i64 a,.int .i64 p] w fun e w'=>e=.returned (.tuple #[.int .i64 0,.int .i64 1])/\w=w':=by
 by_cases hp:p<0\/1000000<p
 . have HI:=zH (K0 p w hp);clear h hp;go_enter Tryz.func38,Tryz.ntmps38
   go_wp2_with fail
   refine HI.out.mono ?_;rintro e w' ⟨rfl,rfl⟩;go_wp2_with fail
   go_ret2
   exact⟨rfl,rfl⟩
 . obtain⟨q,rfl⟩:∃q:Nat,p=q:=⟨p.toNat,by omega⟩
   have HI:=zH (zar q w (by omega));have hn:¬IsPr q:=by
    rcases h with h|h|h
    . intro h2;have:=h2.1;omega
    . omega
    . simpa using h
   rw[q8 hn]at HI;clear h hp hn;go_enter Tryz.func38,Tryz.ntmps38
   go_wp2_with fail
   refine HI.out.mono ?_;rintro e w' ⟨rfl,rfl⟩;go_wp2_with fail
   go_ret2
   exact⟨rfl,rfl⟩
end Go.Proofs.YtmgfbmkfomebcaaGreatDoor
