/- HammingSays: for arbitrary words Put and Get answer what the document says. Conditions: none. -/
import Derived.Test.YtmgfbmkfomebcaaGreatDoorRows
import Derived.Test.YtmgfbmkfomebcaaGreatDoorDkM6xHamming
import Derived.Test.YtmgfbmkfomebcaaGreatDoorDkM2
import Derived.Test.YtmgfbmkfomebcaaGreatDoorDkM3
import Derived.Test.YtmgfbmkfomebcaaGreatDoorDkM1
import Derived.Laws.OwnMore
import Derived.Deep.AppendLies
import Derived.ChangeSlices
import Derived.SliceStrings
set_option linter.unusedVariables false
set_option linter.unusedSimpArgs false
set_option maxHeartbeats 1000000
set_option maxRecDepth 100000
namespace Go.Proofs.YtmgfbmkfomebcaaGreatDoor
open Go.RowKit
theorem zb1(k:Nat)(hk:k<11)(w:World):
 (Instr.index 133 (.agg #[.int .i64 3,.int .i64 5,.int .i64 6,.int .i64 7,.int .i64 9,.int .i64 10,.int .i64 11,.int .i64 12,.int .i64 13,.int .i64 14,.int .i64 15]) (.int .i64 (k:Int))).run Tryz.prog w=.ok (.int .i64 (ja.getD k 0:Nat)) w:=by
 have:k=0\/k=1\/k=2\/k=3\/k=4\/k=5\/k=6\/k=7\/k=8\/k=9\/k=10:=by omega
 rcases this with rfl|rfl|rfl|rfl|rfl|rfl|rfl|rfl|rfl|rfl|rfl
 all_goals(show(_:Result Value)=_;kernel_rfl)
theorem zaD:∀k:Fin 11,1<=ja.getD k.val 0/\ja.getD k.val 0<=15:=by decide+kernel
theorem zdm(k x:Nat):Qs k x<2^k:=by
 induction k with
 |zero=>simp[Qs]
 |succ k ih=>
  simp only[Qs];refine Nat.or_lt_two_pow (Nat.lt_of_lt_of_le ih (Nat.pow_le_pow_right (by omega) (by omega))) ?_;rw[Nat.pow_succ];have h1:0<2^k:=Nat.pow_pos (by omega);have h2:=Nat.mul_le_mul_right (2^k) (show hbit x (ja.getD k 0-1)<=1 by have:=Qr x (ja.getD k 0-1);omega);omega
theorem zaE(x:Nat)(w:World)(hx:x<65536):
 Calls Tryz.prog 46 #[.int .u16 x] w fun e w'=>e=.returned (.int .u16 (jZ x:Nat))/\∃n,w'=w.drewN n:=by
 go_enter Tryz.func46,Tryz.ntmps46
 go_wp2_with fail
 go_loopw [3,7] (fun vo va wr=>∃k o:Nat,va=.int .i64 k/\vo=.int .u16 o/\k<=11/\o<65536/\Hid (o=Qs k x)/\∃n,wr=w.drewN n) (fun _ va _=>11-(intOf va).toNat)
 case atStart=>exact⟨0,0,rfl,rfl,by omega,by omega,by show _=_;rfl,0,rfl⟩
 case round=>
  obtain⟨k,o,rfl,rfl,hk,ho,hoe,n,rfl⟩:=hrel;by_cases hk11:k<11
  . have hidx:=zb1 k hk11;obtain⟨p,hp⟩:∃p,ja.getD k 0=p:=⟨_,rfl⟩
    have hpb:1<=p/\p<=15:=by rw[<-hp];exact zaD ⟨k,hk11⟩
    rw[hp]at hidx;have t1:((p:Int)-1).toNat=p-1:=by omega
    have e1:=KL x (p-1) hx;have hk14:=zfq k (by omega);obtain⟨S,hS⟩:∃S,hbit x (p-1)*2^k=S:=⟨_,rfl⟩
    have hS1:S<=16384:=by
     have h1:hbit x (p-1)<=1:=by have:=Qr x (p-1);omega
     have:=Nat.mul_le_mul h1 hk14;omega
    have e2:IntKind.u16.wrap ((hbit x (p-1):Int)*2^k)=(S:Int):=by
     have h1:(hbit x (p-1):Int)*2^k=(S:Int):=by rw[<-hS,zbC];push_cast;rfl
     rw[h1];exact IntWalk.u16_in _ (by omega)
    have e3:=u16_or_nat o S (by omega) (by omega);have hn:Hid (o ||| S=Qs (k+1) x):=by
     show _=_;simp only[Qs];rw[hp,hS,<-hoe.out]
    have hdS:o ||| S<65536:=Nat.or_lt_two_pow (n:=16) (by omega) (by omega)
    clear hp hS hk14;go_wp2_with fail
    go_roundw
    case rel=>exact⟨k+1,o ||| S,by go_num,rfl,by omega,hdS,hn,_,rfl⟩
    case measure=>simp[intOf];omega
  . obtain rfl:k=11:=by omega
    have hfin:Hid (o=jZ x):=by show _=_;rw[<-Jg];exact hoe.out
    go_wp2_with fail
    go_ret
    exact⟨by rw[hfin.out];rfl,_,rfl⟩
theorem zdn(x:Nat):jZ x<65536:=by
 rw[<-Jg];have:=zdm 11 x;omega
def zaT(p:Int->Bool)(zs:List Int):Int:=match zs.findIdx? p with|some i=>(i:Int)|none=> -1
theorem zcp{p:Int->Bool}{zs:List Int}(h:∀x∈zs,p x=false):zaT p zs= -1:=by
 unfold zaT;rw[List.findIdx?_eq_none_iff.2 (by simpa using h)]
theorem zcq{p:Int->Bool}{zs:List Int}{k:Nat}{x:Int}(hk:zs[k]?=some x)(hx:p x=true)(h:∀j y,j<k->zs[j]?=some y->p y=false):zaT p zs=k:=by
 have:zs.findIdx? p=some k:=by
  rw[List.findIdx?_eq_some_iff_getElem];obtain⟨hl,he⟩:=List.getElem?_eq_some_iff.1 hk;refine⟨hl,by rw[he];exact hx,fun j hj=>?_⟩;have:=h j _ hj (List.getElem?_eq_getElem (by omega));simp[this]
 unfold zaT;rw[this]
theorem JO(p:Int->Bool)(zs:List Int):decide (0<=zaT p zs)=zs.any p:=by
 unfold zaT;cases h:zs.findIdx? p with
 |none=>
  have h2:=List.findIdx?_eq_none_iff.1 h;have:zs.any p=false:=by simpa using h2
  rw[this];rfl
 |some i=>
  have h2:=List.findIdx?_eq_some_iff_getElem.1 h;obtain⟨hl,hp,_⟩:=h2;have:zs.any p=true:=List.any_eq_true.2 ⟨_,List.getElem_mem hl,hp⟩;rw[this];simp
def yP(l:List (Nat×Nat)):List Value:=l.flatMap fun a=>[.int .i64 a.1,.int .i64 a.2]
theorem jR(l m:List (Nat×Nat)):yP (l++m)=yP l++yP m:=by simp[yP]
theorem zcU:(Tryz.prog.info? 90).map (fun i=>(i.zero,i.size,i.bytes))=some (some (.agg #[.int .i64 0,.int .i64 0]),2,16):=by kernel_rfl
theorem Yg:yb Tryz.prog 90 (.agg #[.int .i64 0,.int .i64 0]) 2 16:=yf zcU rfl (by omega)
theorem zfx{n d:Nat}(h:n<d*d):(n:Int)<(d:Int)*d:=by
 have h2:((d*d:Nat):Int)=(d:Int)*d:=by push_cast;rfl
 omega
theorem zfy{n d:Nat}(h:d*d<=n):(d:Int)*d<=(n:Int):=by
 have h2:((d*d:Nat):Int)=(d:Int)*d:=by push_cast;rfl
 omega
def Yq(n:Nat)(w:World)(e:Ending)(w':World):Prop:=
 ∃l v,Factors n l/\l.length<=1000000/\e=.returned (.tuple #[v,.int .i64 0])/\w'.ownsRow w.heap.size 90 2 v l.length (yP l)/\Below w.heap.size w w'
theorem Kd(n:Nat)(w:World)(h1:1<=n)(hn:n<=1000000):
 Calls Tryz.prog 37 #[.int .i64 n] w (Yq n w):=by
 have d1:decide ((1000000:Int)<n)=false:=by simp;omega
 go_enter Tryz.func37,Tryz.ntmps37
 go_wp2_with fail
 go_loopw [0,4,5] (fun vm vo vd wr=>∃(m d:Nat) (l:List (Nat×Nat)),vm=.int .i64 m/\vd=.int .i64 d/\Hid (Fac n m d l)/\1<=m/\m<=1000000/\2<=d/\d<=1000001/\l.length+2<=d/\wr.ownsRow w.heap.size 90 2 vo l.length (yP l)/\Below w.heap.size w wr)
  (fun vm _ vd _=>(intOf vm).toNat+1-(intOf vd).toNat)
 case atStart=>exact⟨n,2,[],rfl,rfl,Fac.start n h1,h1,hn,by omega,by omega,by simp,World.ownsRow_nil _ _ _ _,Below.refl _ _⟩
 case round=>
  obtain⟨m,d,l,rfl,rfl,hF,hm1,hm2,hd1,hd2,hll,hown,hbel⟩:=hrel;by_cases hm:m=1
  . subst hm;obtain⟨ao,cp,hv,hR,hnone,hmx⟩:=zr hown;subst hv;have hlen:l.length<=1000000:=by omega
    go_wp2_with (first|(at_make;refine zcQ rfl _ _ 86 rfl w.heap.size 90 _ 2 16 Tryz.underlying86 Yg _ _ _ l.length rfl rfl rfl ?m1 ?m2 ?m3 ?_))
    case m1=>omega
    case m2=>exact hmx
    case m3=>exact hbel.size
    intro w1 hown1 hg1;have hb1:Below wr.heap.size wr w1:=zQ hg1 (Nat.le_refl _) (by intro k hk;cases hk);have hR1:=zH (hR.below hb1);have hbel1:=hbel.trans (hb1.mono hbel.size);have hF1:=hF.out.last;have one:∀u∈yP l,u.oneCell'=true:=by
     intro u hu;simp only[yP,List.mem_flatMap]at hu;obtain⟨a,_,ha⟩:=hu;simp at ha;rcases ha with rfl|rfl<;>rfl
    have ONE:=zH one;have HF1:=zH hF1;have HN:=zH hnone;have hcl:Hid ((yP l).length=l.length*2):=hown.1;clear one hF1 hnone hown hR hg1 hb1;go_wp2_with (at_builtin;refine Qh rfl (.tmp 42) (.tmp 43) 86 rfl w.heap.size 90 _ 2 16 Tryz.underlying86 Yg _ 0 [] rfl hown1 ao l.length cp (yP l) rfl HN.out hcl.out hR1.out ONE.out ?m4 ?m5 ?m6 ?_)
    case m4=>unfold maxLen;omega
    case m5=>omega
    case m6=>exact hbel1.size
    intro v2 w2 hown2 _ hbel2;go_wp2_with fail
    go_ret2
    exact⟨l,v2,HF1.out,hlen,rfl,by simpa using hown2,hbel1.trans hbel2⟩
  . have hm2':2<=m:=by omega
    obtain⟨p0,p1⟩:=XO d 1000001 hd2;have hdm:=hF.out.nod.ge hm2';by_cases hsq:m<d*d
    . have hsq2:(m:Int)<(d:Int)*d:=by have:=zfx hsq;omega
      have hF2:=zH (hF.out.jump hm2' hsq);clear hsq;go_wp2_with fail
      go_loopw [0,6] (fun vm vk wi=>∃m2 k:Nat,vm=.int .i64 m2/\vk=.int .i64 k/\Hid (m^k*m2=m)/\1<=m2/\k+m2<=m/\wi=wr) (fun vm _ _=>(intOf vm).toNat)
      case atStart=>exact⟨m,0,rfl,rfl,by show _=_;simp,hm1,by omega,rfl⟩
      case round=>
       obtain⟨m2,k,rfl,rfl,hk,hm21,hkm,rfl⟩:=hrel;by_cases hdv:m∣m2
       . have ht:=ji m2 m hdv;have hk2:=zH (Y5 hk.out hdv);have hq1:1<=m2 / m:=Nat.div_pos (Nat.le_of_dvd (by omega) hdv) (by omega);have hq2:m2 / m<m2:=Nat.div_lt_self (by omega) (by omega);clear hdv;go_wp2_with fail
         go_roundw
         case rel=>exact⟨m2 / m,k+1,by go_num,by go_num,hk2,hq1,by omega,by trivial⟩
         case measure=>simp[intOf];omega
       . have ht:=km m2 m hdv;have HN:=zH hdv;clear hdv;by_cases hk0:k=0
         . subst hk0;have hmm:m2=m:=by have:=hk.out;simpa using this
           subst hmm;have hF3:=zH (hF2.out.skip HN.out);exact absurd (Nat.dvd_refl _) HN.out
         . have hF3:=zH (hF2.out.take (by omega) (by omega) hk.out HN.out);have hkp:0<k:=by omega
           have hge:m2=1\/m+1<=m2:=by
            by_cases h2:2<=m2
            . exact .inr (hF3.out.nod.ge h2)
            . omega
           go_wp2_with (at_builtin;refine yr rfl (.tmp 34) (.tmp 38) 86 rfl w.heap.size 90 _ 2 16 Tryz.underlying86 Yg _ l.length (yP l) rfl hown [.int .i64 m,.int .i64 k] rfl rfl ?c1 ?c2 ?c3 ?c4 ?_)
           case c1=>intro u hu;simp at hu;rcases hu with rfl|rfl<;>rfl
           case c2=>unfold maxLen;omega
           case c3=>omega
           case c4=>exact hbel.size
           intro v' w1 hown' _ hbel';go_wp2_with fail
           go_roundw
           case rel=>exact⟨m2,m+1,l++[(m,k)],rfl,by go_num,hF3,hm21,by omega,by omega,by omega,by simp;omega,by rw[jR,List.length_append];exact hown',hbel.trans hbel'⟩
           case measure=>simp[intOf];omega
    . have hsq2:¬(m:Int)<(d:Int)*d:=by have:=zfy (by omega:d*d<=m);omega
      have hF2:=hF;clear hsq;go_wp2_with fail
      go_loopw [0,6] (fun vm vk wi=>∃m2 k:Nat,vm=.int .i64 m2/\vk=.int .i64 k/\Hid (d^k*m2=m)/\1<=m2/\k+m2<=m/\wi=wr) (fun vm _ _=>(intOf vm).toNat)
      case atStart=>exact⟨m,0,rfl,rfl,by show _=_;simp,hm1,by omega,rfl⟩
      case round=>
       obtain⟨m2,k,rfl,rfl,hk,hm21,hkm,rfl⟩:=hrel;by_cases hdv:d∣m2
       . have ht:=ji m2 d hdv;have hk2:=zH (Y5 hk.out hdv);have hq1:1<=m2 / d:=Nat.div_pos (Nat.le_of_dvd (by omega) hdv) (by omega);have hq2:m2 / d<m2:=Nat.div_lt_self (by omega) (by omega);clear hdv;go_wp2_with fail
         go_roundw
         case rel=>exact⟨m2 / d,k+1,by go_num,by go_num,hk2,hq1,by omega,by trivial⟩
         case measure=>simp[intOf];omega
       . have ht:=km m2 d hdv;have HN:=zH hdv;clear hdv;by_cases hk0:k=0
         . subst hk0;have hmm:m2=m:=by have:=hk.out;simpa using this
           subst hmm;have hF3:=zH (hF2.out.skip HN.out);have hge:m2=1\/d+1<=m2:=.inr (hF3.out.nod.ge hm2');go_wp2_with fail
           go_roundw
           case rel=>exact⟨m2,d+1,l,rfl,by go_num,hF3,hm1,hm2,by omega,by omega,by omega,hown,hbel⟩
           case measure=>simp[intOf];omega
         . have hF3:=zH (hF2.out.take (by omega) (by omega) hk.out HN.out);have hkp:0<k:=by omega
           have hge:m2=1\/d+1<=m2:=by
            by_cases h2:2<=m2
            . exact .inr (hF3.out.nod.ge h2)
            . omega
           go_wp2_with (at_builtin;refine yr rfl (.tmp 34) (.tmp 38) 86 rfl w.heap.size 90 _ 2 16 Tryz.underlying86 Yg _ l.length (yP l) rfl hown [.int .i64 d,.int .i64 k] rfl rfl ?e1 ?e2 ?e3 ?e4 ?_)
           case e1=>intro u hu;simp at hu;rcases hu with rfl|rfl<;>rfl
           case e2=>unfold maxLen;omega
           case e3=>omega
           case e4=>exact hbel.size
           intro v' w1 hown' _ hbel';go_wp2_with fail
           go_roundw
           case rel=>exact⟨m2,d+1,l++[(d,k)],rfl,by go_num,hF3,hm21,by omega,by omega,by omega,by simp;omega,by rw[jR,List.length_append];exact hown',hbel.trans hbel'⟩
           case measure=>simp[intOf];omega
theorem QU(n:Int)(w:World)(hn:n<1\/1000000<n):
 Calls Tryz.prog 37 #[.int .i64 n] w fun e w'=>e=.returned (.tuple #[.slice none 0 0,.int .i64 1])/\w=w':=by
 by_cases h:n<1
 . go_enter Tryz.func37,Tryz.ntmps37
   go_wp2_with fail
   go_ret2
   exact⟨rfl,rfl⟩
 . have h1:decide (1000000<n)=true:=by simp;omega
   go_enter Tryz.func37,Tryz.ntmps37
   go_wp2_with fail
   go_ret2
   exact⟨rfl,rfl⟩
theorem K7(c d:Nat)(hc:c%2=0)(hd:d%2=1):Nat.gcd (c / 2) d=Nat.gcd c d:=by
 have e:c=2*(c / 2):=by omega
 have h2:Nat.Coprime 2 d:=by
  rw[Nat.Coprime,Nat.gcd_rec,hd];rfl
 rw[e,Nat.Coprime.gcd_mul_left_cancel _ h2]
 congr 1;omega
theorem zbN(c d:Nat)(hc:c%2=1)(hd:d%2=0):Nat.gcd c (d / 2)=Nat.gcd c d:=by
 rw[Nat.gcd_comm,K7 d c hd hc,Nat.gcd_comm]
theorem zcW(c d t G:Nat)(hc:c%2=0)(hd:d%2=0)(h:Nat.gcd c d*2^t=G):Nat.gcd (c / 2) (d / 2)*2^(t+1)=G:=by
 have e1:c=2*(c / 2):=by omega
 have e2:d=2*(d / 2):=by omega
 rw[e1,e2,Nat.gcd_mul_left]at h;rw[<-h,Nat.pow_succ];simp only[Nat.mul_assoc,Nat.mul_comm,Nat.mul_left_comm]
theorem zbl(c d:Nat):(c ||| d)%2=0↔c%2=0/\d%2=0:=by
 have h:((c ||| d)%2)=((c%2) ||| (d%2)):=Nat.or_mod_two_pow (a:=c) (b:=d) (n:=1);rw[h];rcases Nat.mod_two_eq_zero_or_one c with h1|h1<;>rcases Nat.mod_two_eq_zero_or_one d with h2|h2<;>simp[h1,h2]
theorem K8(m n:Nat)(h:n<=m):Nat.gcd n (m-n)=Nat.gcd m n:=by
 obtain⟨k,rfl⟩:=Nat.exists_eq_add_of_le h;rw[Nat.add_sub_cancel_left,Nat.gcd_comm (n+k) n];simp
theorem zcX(a b:Int)(w:World)(ha: -2305843009213693952<=a)(ha':a<=2305843009213693952)(hb: -2305843009213693952<=b)(hb':b<=2305843009213693952):
 Calls Tryz.prog 42 #[.int .i64 a,.int .i64 b] w fun e w'=>e=.returned (.int .i64 (gI a b))/\w=w':=by
 obtain⟨X,hX⟩:∃X:Nat,(if a< -a then -a else a)=(X:Int):=⟨a.natAbs,by split<;>omega⟩
 obtain⟨Y,hY⟩:∃Y:Nat,(if b< -b then -b else b)=(Y:Int):=⟨b.natAbs,by split<;>omega⟩
 have hG:Hid (gI a b=((Nat.gcd X Y:Nat):Int)):=by
  show _=_;have h1:X=a.natAbs:=by split at hX<;>omega
  have h2:Y=b.natAbs:=by split at hY<;>omega
  rw[h1,h2];rfl
 have hXm:X<=2305843009213693952:=by split at hX<;>omega
 have hYm:Y<=2305843009213693952:=by split at hY<;>omega
 by_cases x0:X=0\/Y=0
 . have hR:Hid ((X:Int)+(Y:Int)=gI a b):=by
    show _=_;rw[hG.out];rcases x0 with h|h<;>simp[h]
   by_cases x1:X=0
   . have z:((X:Int)==0)=true:=by simp[x1]
     clear x0 x1;go_enter Tryz.func42,Tryz.ntmps42
     go_wp2
     go_ret
     exact⟨vH hR.out,rfl⟩
   . have z:((X:Int)==0)=false:=by simp[x1]
     have z2:((Y:Int)==0)=true:=by simp;omega
     clear x0 x1;go_enter Tryz.func42,Tryz.ntmps42
     go_wp2
     go_ret
     exact⟨vH hR.out,rfl⟩
 . have z:((X:Int)==0)=false:=by simp;omega
   have z2:((Y:Int)==0)=false:=by simp;omega
   have x1:1<=X:=by omega
   have y1:1<=Y:=by omega
   clear x0;go_enter Tryz.func42,Tryz.ntmps42
   go_wp2
   go_loop [0,1,5] (fun va vb vt=>∃c d t:Nat,va=.int .i64 c/\vb=.int .i64 d/\vt=.int .i64 t/\1<=c/\1<=d/\c<=X/\d<=Y/\t<=63/\Hid (c*2^t<=X)/\Hid (Nat.gcd c d*2^t=Nat.gcd X Y)) (fun va _ _=>(intOf va).toNat)
   case atStart=>exact⟨X,Y,0,rfl,rfl,rfl,x1,y1,Nat.le_refl _,Nat.le_refl _,by omega,by show _<=_;simp,by show _=_;simp⟩
   case round=>
    obtain⟨c,d,t,rfl,rfl,rfl,hc,hd,hcX,hdY,ht,hp,hg⟩:=hrel;have o1:=zbc c d (by omega) (by omega);have hor:c ||| d<9223372036854775808:=Nat.or_lt_two_pow (n:=63) (by omega) (by omega)
    have o2:=kh (c ||| d) hor;by_cases hev:c%2=0/\d%2=0
    . have o3:((((c ||| d:Nat):Int))%2==0)=true:=by have:=(zbl c d).2 hev;simp;omega
      have hp2:Hid (c / 2*2^(t+1)<=X):=by
       have h1:=hp.out;show _<=_;rw[Nat.pow_succ,Nat.mul_comm (2^t) 2,<-Nat.mul_assoc];exact Nat.le_trans (Nat.mul_le_mul_right _ (by omega)) h1
      have hg2:Hid (Nat.gcd (c / 2) (d / 2)*2^(t+1)=Nat.gcd X Y):=zcW c d t _ hev.1 hev.2 hg.out;have ht2:t+1<=63:=by
       have h1:=hp2.out;have h2:1*2^(t+1)<=c / 2*2^(t+1):=Nat.mul_le_mul_right _ (by omega);have h3:2^(t+1)<2^63:=by omega
       have:=(Nat.pow_lt_pow_iff_right (a:=2) (by omega)).1 h3;omega
      go_wp2
      go_round
      case rel=>exact⟨c / 2,d / 2,t+1,by go_num,by go_num,by go_num,by omega,by omega,by omega,by omega,ht2,hp2,hg2⟩
      case measure=>simp[intOf];omega
    . have o3:((((c ||| d:Nat):Int))%2==0)=false:=by
       have:=(not_congr (zbl c d)).2 hev;simp;omega
      have hodd:c%2=1\/d%2=1:=by omega
      have hgt:Hid (Nat.gcd c d*2^t=Nat.gcd X Y):=hg;clear hev hp hg
      go_wp2
      go_loop [0,1] (fun va vb=>∃p q:Nat,va=.int .i64 p/\vb=.int .i64 q/\1<=p/\p<=2305843009213693952/\q<=2305843009213693952/\Hid (p%2=1\/q%2=1)/\Hid (Nat.gcd p q*2^t=Nat.gcd X Y)) (fun va vb=>(intOf va).toNat+(intOf vb).toNat)
      case atStart=>exact⟨c,d,rfl,rfl,hc,by omega,by omega,hodd,hgt⟩
      case round=>
       obtain⟨p,q,rfl,rfl,hp1,hpm,hqm,hpq,hg⟩:=hrel;by_cases hq:q=0
       . subst hq;have hR:Hid (wrap64 ((p:Int)*2^t)=gI a b):=by
          show _=_;have h1:=hg.out;rw[Nat.gcd_zero_right]at h1;have h2:((p:Int)*2^t)=((p*2^t:Nat):Int):=by push_cast;rfl
          rw[h2,h1,hG.out];have h3:Nat.gcd X Y<=X:=Nat.gcd_le_left _ (by omega);exact IntWalk.wrap64_in _ (by omega)
         go_wp2
         go_ret
         exact⟨vH hR.out,rfl⟩
       . have hqz:((q:Int)!=0)=true:=by simp;omega
         go_wp2
         go_loop [0] (fun va=>∃p2:Nat,va=.int .i64 p2/\1<=p2/\p2<=p/\Hid (p2%2=1\/q%2=1)/\Hid (Nat.gcd p2 q*2^t=Nat.gcd X Y)) (fun va=>(intOf va).toNat)
         case atStart=>exact⟨p,rfl,hp1,Nat.le_refl _,hpq,hg⟩
         case round=>
          obtain⟨p2,rfl,h1,h2,hodd2,hg2⟩:=hrel;have o4:=kh p2 (by omega);rcases Nat.mod_two_eq_zero_or_one p2 with he|he
          . have o5:(((p2:Nat):Int)%2==0)=true:=by simp;omega
            go_wp2
            go_round
            case rel=>exact⟨p2 / 2,by go_num,by omega,by omega,by have:=hodd2.out;show _\/_;omega,by
             have:=hodd2.out;have h3:=K7 p2 q he (by omega);show _=_;rw[h3];exact hg2.out⟩
            case measure=>simp[intOf];omega
          . have o5:(((p2:Nat):Int)%2==0)=false:=by simp;omega
            have HE:Hid (p2%2=1):=he;clear he
            go_wp2
            go_loop [1] (fun vb=>∃q2:Nat,vb=.int .i64 q2/\1<=q2/\q2<=q/\Hid (Nat.gcd p2 q2*2^t=Nat.gcd X Y)) (fun vb=>(intOf vb).toNat)
            case atStart=>exact⟨q,rfl,by omega,Nat.le_refl _,hg2⟩
            case round=>
             obtain⟨q2,rfl,h3,h4,hg3⟩:=hrel;have o6:=kh q2 (by omega);rcases Nat.mod_two_eq_zero_or_one q2 with he2|he2
             . have o7:(((q2:Nat):Int)%2==0)=true:=by simp;omega
               go_wp2
               go_round
               case rel=>exact⟨q2 / 2,by go_num,by omega,by omega,by
                have h5:=zbN p2 q2 HE.out he2;show _=_;rw[h5];exact hg3.out⟩
               case measure=>simp[intOf];omega
             . have o7:(((q2:Nat):Int)%2==0)=false:=by simp;omega
               have HE2:Hid (q2%2=1):=he2;clear he2;by_cases hsw:q2<p2
               . go_wp2
                 go_round
                 case rel=>exact⟨q2,p2-q2,rfl,by go_num,h3,by omega,by omega,.inl HE2.out,by show _=_;rw[K8 p2 q2 (by omega)];exact hg3.out⟩
                 case measure=>simp[intOf];omega
               . go_wp2
                 go_round
                 case rel=>exact⟨p2,q2-p2,rfl,by go_num,h1,by omega,by omega,.inl HE.out,by show _=_;rw[K8 q2 p2 (by omega),Nat.gcd_comm];exact hg3.out⟩
                 case measure=>simp[intOf];omega
def zgx(x:Int):Bool:=decide (x< -1000000000\/1000000000<x)
theorem Y3(fn:FuncId)(c d:Value)(hfn:∀(x:Value) (W:World),(callFunc fn #[x,c,d]).run Tryz.prog W=.ok (.enter fn #[x,c,d]) W)(p:Int->Bool)(zs:List Int)(ao:Option Addr)(cap:Nat)(w:World)(hl:zs.length<=9223372036854775807)(hR:Hid (Reads w ao (zs.map (Value.int .i64))))
 (hf:Hid (∀x∈zs,∀n,Calls Tryz.prog fn #[.int .i64 x,c,d] (w.drewN n) fun e w'=>e=.returned (.bool (p x))/\∃m,w'=(w.drewN n).drewN m)):
 Calls Tryz.prog 149 #[.slice ao zs.length cap,.func (.func fn) #[] #[c,d]] w fun e w'=>e=.returned (.int .i64 (zaT p zs))/\∃n,w'=w.drewN n:=by
 obtain⟨len,hlen⟩:∃n,zs.length=n:=⟨_,rfl⟩
 rw[hlen]at hl ⊢;have HL:=zH hlen;clear hlen;go_enter Tryz.func149,Tryz.ntmps149
 go_wp2_with fail
 go_loopw [8] (fun vi wr=>∃k:Nat,vi=.int .i64 k/\k<=len/\Hid (∀j y,j<k->zs[j]?=some y->p y=false)/\∃n,wr=w.drewN n) (fun vi _=>len-(intOf vi).toNat)
 case atStart=>exact⟨0,rfl,by omega,by intro j y hj;omega,0,rfl⟩
 case round=>
  obtain⟨k,rfl,hk,hno,n,rfl⟩:=hrel;by_cases hkl:k<len
  . obtain⟨x,hx⟩:∃x,zs[k]?=some x:=⟨zs[k]'(by rw[HL.out];exact hkl),List.getElem?_eq_getElem _⟩
    obtain⟨b,o,rfl,hc⟩:=hR.out k (.int .i64 x) (by simp[hx]);have HX:=zH hx;clear hx;have hcall:=zH (hf.out x (List.mem_of_getElem? HX.out));cases hp:p x with
    |true=>
     have HP:=zH hp;clear hp;go_wp2_with fail
     refine(hcall.out n).mono ?_;rw[HP.out];rintro e w' ⟨rfl,m,rfl⟩
     go_wp2
     go_ret
     exact⟨vH (zcq HX.out HP.out hno.out).symm,_,rfl⟩
    |false=>
     have HP:=zH hp;clear hp;go_wp2_with fail
     refine(hcall.out n).mono ?_;rw[HP.out];rintro e w' ⟨rfl,m,rfl⟩
     go_wp2
     go_roundw
     case rel=>exact⟨k+1,by go_num,by omega,by
      intro j y hj hy;by_cases he:j=k
      . subst he;rw[HX.out]at hy;cases hy;exact HP.out
      . exact hno.out j y (by omega) hy,_,rfl⟩
     case measure=>simp[intOf];omega
  . obtain rfl:k=len:=by omega
    go_wp2
    go_ret
    refine⟨vH (zcp fun x hx=>?_).symm,_,rfl⟩;obtain⟨j,hj⟩:=List.getElem?_of_mem hx;have:=(List.getElem?_eq_some_iff.1 hj).1;exact hno.out j x (by have:=HL.out;omega) hj
theorem QA(fn:FuncId)(c d:Value)(hfn:∀(x:Value) (W:World),(callFunc fn #[x,c,d]).run Tryz.prog W=.ok (.enter fn #[x,c,d]) W)(p:Int->Bool)(zs:List Int)(ao:Option Addr)(cap:Nat)(w:World)(hl:zs.length<=9223372036854775807)(hR:Hid (Reads w ao (zs.map (Value.int .i64))))
 (hf:Hid (∀x∈zs,∀n,Calls Tryz.prog fn #[.int .i64 x,c,d] (w.drewN n) fun e w'=>e=.returned (.bool (p x))/\∃m,w'=(w.drewN n).drewN m)):
 Calls Tryz.prog 128 #[.slice ao zs.length cap,.func (.func fn) #[] #[c,d]] w fun e w'=>e=.returned (.bool (zs.any p))/\∃n,w'=w.drewN n:=by
 go_enter Tryz.func128,Tryz.ntmps128
 go_wp2_with (go_at_call 149;refine(Y3 fn c d hfn p zs ao cap w hl hR hf).mono ?_;rintro e w' ⟨rfl,n,rfl⟩)
 go_ret
 exact⟨qi (JO p zs),_,rfl⟩
def zX(n:Nat)(f:Nat->Value):List Value:=(List.range n).map f
theorem zC(n:Nat)(f:Nat->Value):(zX n f).length=n:=by simp[zX]
theorem zG{n:Nat}(f:Nat->Value){j:Nat}(h:j<n):(zX n f)[j]?=some (f j):=by simp[zX,h]
theorem kT{n:Nat}{f g:Nat->Value}(h:∀j,j<n->f j=g j):zX n f=zX n g:=
 List.map_congr_left fun j hj=>h j (List.mem_range.1 hj)
theorem zd7{n i:Nat}(f:Nat->Value)(u:Value):(zX n f).set i u=zX n (fun j=>if j=i then u else f j):=by
 apply List.ext_getElem?;intro j;rw[List.getElem?_set];by_cases h:j<n
 . rw[zG _ h,zG _ h,zC];by_cases hij:i=j
   . subst hij;rw[if_pos rfl,if_pos h,if_pos rfl]
   . rw[if_neg hij,if_neg (fun h=>hij h.symm)]
 . rw[List.getElem?_eq_none (by rw[zC];omega),List.getElem?_eq_none (by rw[zC];omega),zC]
   split
   . rw[if_neg (by omega)]
   . rfl
theorem kF(n:Nat)(f:Nat->Value):zX (n+1) f=zX n f++[f n]:=by simp[zX,List.range_succ]
theorem Xz(n:Nat)(z:Value):List.replicate n z=zX n (fun _=>z):=by
 apply List.ext_getElem?;intro j;by_cases h:j<n
 . rw[zG _ h];simp[h]
 . rw[List.getElem?_eq_none (by simp;omega),List.getElem?_eq_none (by rw[zC];omega)]
theorem zd8{n:Nat}{f:Nat->Value}(h:∀j,(f j).oneCell'=true):∀u∈zX n f,u.oneCell'=true:=by
 intro u hu;obtain⟨j,_,rfl⟩:=List.mem_map.1 hu;exact h j
def Own(w:World)(base e g n cap:Nat)(f:Nat->Value):Prop:=w.ownsRow base e 1 (.slice (some ⟨g,0,none⟩) n cap) n (zX n f)
theorem Own.cell{w:World}{base e g n cap:Nat}{f:Nat->Value}(h:Own w base e g n cap f){i:Nat}(hi:i<n):w.cell? ⟨g,i,none⟩=some (f i):=by
 have h1:=World.ownsRow.cellAt (g:=g) (cap:=cap) (n:=n) h i (by omega);rw[h1,zG f hi]
theorem Own.frozen{w:World}{base e g n cap:Nat}{f:Nat->Value}(h:Own w base e g n cap f)(i:Nat):w.frozen? ⟨g,i,none⟩=false:=World.ownsRow.frozenAt h i
theorem Own.store{w:World}{base e g n cap:Nat}{f:Nat->Value}(h:Own w base e g n cap f)(i:Nat)(u:Value):
 Own (w.setCell ⟨g,i,none⟩ u) base e g n cap (fun j=>if j=i then u else f j)/\w.grownBy (w.setCell ⟨g,i,none⟩ u) (some g):=by
 have h1:=World.ownsRow.stored h i u;refine⟨?_,h1.2⟩;have h2:=h1.1;rw[zd7]at h2;exact h2
theorem Own.congr{w:World}{base e g n cap:Nat}{f f':Nat->Value}(h:Own w base e g n cap f)(hf:∀j,j<n->f j=f' j):Own w base e g n cap f':=by
 unfold Own at h ⊢
 rwa [kT hf]at h
theorem Own.lt{w:World}{base e g n cap:Nat}{f:Nat->Value}(h:Own w base e g n cap f):base<=g/\g<w.heap.size:=World.ownsRow.lt h g rfl
theorem Own.below{w w':World}{base e g n cap:Nat}{f:Nat->Value}(h:Own w base e g n cap f)(hb:Below w.heap.size w w'):Own w' base e g n cap f:=zi h hb
theorem Own.drewN{w:World}{base e g n cap:Nat}{f:Nat->Value}(h:Own w base e g n cap f)(k:Nat):Own (w.drewN k) base e g n cap f:=h.below (yc _ _ _)
theorem Own.reads{w:World}{base e g n cap:Nat}{f:Nat->Value}(h:Own w base e g n cap f):Reads w (some ⟨g,0,none⟩) (zX n f):=by
 obtain⟨ao,cp,hv,hR,_,_⟩:=zr h;cases hv;exact hR
theorem Own.kept{w w':World}{base e g n cap:Nat}{f:Nat->Value}{r:Nat}(h:Own w base e g n cap f)(hg:w.grownBy w' (some r))(hne:g≠r):Own w' base e g n cap f:=
 World.ownsRow.kept h hg (.inr fun h=>hne (by injection h))
theorem Own.belowStore{w w0:World}{base e g n cap:Nat}{f:Nat->Value}(h:Own w base e g n cap f)(hb:Below base w0 w)(hs:base<=w0.heap.size)(i:Nat)(u:Value):Below base w0 (w.setCell ⟨g,i,none⟩ u):=
 hb.trans ((Below.refl base w).grown (h.store i u).2 (Nat.le_trans hs hb.size) (fun k hk=>by cases hk;exact h.lt.1))
theorem KT(w:World)(base e:Nat)(xs:List Value)(hb:base<=w.heap.size)(hm:xs.length<=maxLen):
 (w.alloc (.cells xs.toArray e)).ownsRow base e 1 (.slice (some ⟨w.heap.size,0,none⟩) xs.length xs.length) xs.length xs:=
 ⟨by simp,.inr ⟨w.heap.size,xs.length,xs.toArray,rfl,hb,heap_alloc_new w _,Nat.le_refl _,hm,by simp,by simp⟩⟩
theorem yR{w:World}{base e size:Nat}{v:Value}{n:Nat}{xs:List Value}(h:w.ownsRow base e size v n xs)(hx:xs≠[]):∃g cap,v=.slice (some ⟨g,0,none⟩) n cap:=by
 rcases h.2 with⟨_,hnil⟩|⟨g,cap,cur,rfl,_⟩
 . exact absurd (List.eq_nil_of_length_eq_zero (by rw[h.1,hnil,Nat.zero_mul])) hx
 . exact⟨g,cap,rfl⟩
theorem qh{P:Program}{w:World}{ops:Array Oper}{rest:List Oper}{o:Oper}{a:Act}{Q:Exit->Act->World->Prop}
 (hg:o.guard=none)(l c:Operand)(t:TypeId)(hop:o.op=Op.makeSlice t l c)
 (base:Nat)(e:TypeId)(z:Value)(bytes:Nat)(h1:P.underlying t=some (.slice e))(hE:yb P e z 1 bytes)(hzc:z.cells=#[z])
 (kl kc:IntKind)(L C:Int)(n:Nat)(hl:a.eval l=.int kl L)(hc:a.eval c=.int kc C)(hL:L=(n:Int))(hC:C=(n:Int))(b2:bytes*n<=281474976710656)(b3:n<=maxLen)(b4:base<=w.heap.size)
 (hK:∀w',Own w' base e w.heap.size n n (fun _=>z)->w.grownBy w' none->wpList P ops Q rest (a.put o.dst (.slice (some ⟨w.heap.size,0,none⟩) n n)) w'):
 wpList P ops Q (o::rest) a w:=by
 refine Qi hg l c t hop base e z 1 bytes h1 hE kl kc L C n hl hc hL hC b2 b3 b4 fun w' hown hgr=>hK w' ?_ hgr
 rw[hzc,Nat.mul_one,toList_madeCells_one,Xz]at hown;exact hown
theorem VZ{P:Program}{W:World}{ops:Array Oper}{o:Oper}{a:Act}{K:Act->World->Prop}{Q:Exit->Act->World->Prop}{E:Prop}(hgd:o.guard=none)(s x:Operand)(t:TypeId)
 (ho:o.op=.call {callee:=.builtin .append,args:=#[s,x],argTypes:=#[t,t]})
 (base:Nat)(e:TypeId)(z:Value)(bytes:Nat)(ht:P.underlying t=some (.slice e))(hE:yb P e z 1 bytes)
 (v:Value)(n:Nat)(xs:List Value)(hs:a.eval s=v)(w0:World)(hown:w0.ownsRow base e 1 v n xs)
 (u:Value)(hx:a.eval x=.slice (some ⟨w0.heap.size,0,none⟩) 1 1)(h1:u.oneCell'=true)
 (hW:Below (w0.heap.size+1) (w0.alloc (.cells #[u] e)) W)(hsz:W.heap.size=w0.heap.size+1)
 (h63:n+1<=maxLen)(hbytes:(n+1)*bytes<=140737488355328)(hbase:base<=w0.heap.size)
 (h:∀g cap w',w'.ownsRow base e 1 (.slice (some ⟨g,0,none⟩) (n+1) cap) (n+1) (xs++[u])->(w0.alloc (.cells #[u] e)).grownBy w' v.ownBlock->Below base w0 w'->
  (v.ownBlock=some g\/g=w0.heap.size+1)->g<w'.heap.size->K (a.put o.dst (.slice (some ⟨g,0,none⟩) (n+1) cap)) w'):
 if Region.wanted o (yielded ops a.tmps)=true then Oper.wp P o a W K Q else E:=by
 obtain⟨i,hi,hz,hsize,hby,hzs,hsz1⟩:=hE;have hW2:Below (w0.alloc (.cells #[u] e)).heap.size (w0.alloc (.cells #[u] e)) W:=by rw[World.size_alloc];exact hW
 have hnb:W.heap[w0.heap.size]?=some (.cells #[u] e):=by rw[hW.block _ (by omega)];exact heap_alloc_new w0 _
 refine step_append_lies W hgd s x t ho base e i z 1 bytes ht hi hz hsize hby hzs hsz1 v n xs hs (zi (hown.alloc _) hW2) ⟨w0.heap.size,0,none⟩ 1 1 [u] hx (by simp) (World.news_of_block hnb) (by intro q hq;simp at hq;subst hq;exact h1) (by omega) h63 hbytes (by omega) (w0.heap.size+1) hsz ?_;intro g cap w' hown' hgr hat hlt;have hgr2:(w0.alloc (.cells #[u] e)).grownBy w' v.ownBlock:=⟨hgr.os.trans hW.os,hgr.tape.trans hW.tape,hgr.output.trans hW.output,by rw[World.size_alloc];have:=hgr.size;omega,fun k hk hne=>by
  rw[World.size_alloc]at hk;rw[hgr.block k (by omega) hne,hW.block k hk]⟩
 exact h g cap w' hown' hgr2 (((Below.refl base w0).alloc hbase _).grown hgr2 (by rw[World.size_alloc];omega) fun k hk=>(hown.lt k hk).1) hat hlt
def zgb(k:IntKind)(w:World)(ao:Option Addr)(len:Nat)(zs:List Int):Prop:=
 zs.length=len/\len<=9223372036854775807/\(∀z∈zs,(Lit.int k z).wf=true)/\Reads w ao (zs.map (Value.int k))
def StrsIn(w:World)(ao:Option Addr)(len:Nat)(ss:List ByteArray):Prop:=
 ss.length=len/\len<=9223372036854775807/\(∀s∈ss,s.size<=9223372036854775807)/\Reads w ao (ss.map Value.string)
def zgr(ao:Option Addr)(len cap:Nat):Prop:=(ao=none->len=0/\cap=0)/\len<=cap/\cap<=9223372036854775807
end Go.Proofs.YtmgfbmkfomebcaaGreatDoor
