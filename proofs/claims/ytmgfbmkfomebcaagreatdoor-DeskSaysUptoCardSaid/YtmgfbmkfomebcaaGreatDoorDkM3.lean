/- Append onto a slice of the call's own: which block the result lies in. -/
import Derived.Test.YtmgfbmkfomebcaaGreatDoorDkM2
import Derived.Test.YtmgfbmkfomebcaaGreatDoorRows
import Derived.Test.YtmgfbmkfomebcaaGreatDoorDkM0
import Derived.Test.YtmgfbmkfomebcaaGreatDoorDkM1
set_option linter.unusedVariables false
set_option linter.unusedSimpArgs false
set_option maxHeartbeats 1000000
namespace Go.Proofs.YtmgfbmkfomebcaaGreatDoor
open Go.RowKit
theorem KO{P:Program}(w:World)(base:Nat)(t ty e:TypeId)(i:TypeInfo)(z:Value)(ht:P.underlying t=some (.slice e))(hi:P.info? e=some i)(hz:i.zero=some z)
 (v:Value)(n:Nat)(xs:List Value)(hown:w.ownsRow base e i.size v n xs)
 (a:Addr)(m c:Nat)(news:List Value)(hl:news.length=m*i.size)(hnews:∀j u,news[j]?=some u->w.cell? (a.add j)=some u)(h1:∀u∈news,u.oneCell'=true)
 (hm0:0<m)(h63:n+m<=maxLen)(hbytes:(n+m)*i.bytes<=140737488355328){v':Value}{w':World}
 (hr:(Builtin.append_ #[t,t] ty #[v,.slice (some a) m c]).run P w=.ok v' w'):v'.ownBlock=v.ownBlock\/v'.ownBlock=some w.heap.size:=by
 have hsmall:n+m<=9223372036854775807:=by simp only[maxLen]at h63;omega
 rcases hown.2 with⟨rfl,rfl⟩|⟨g,cap,cur,rfl,hbg,hg,hnc,hcm,hcs,htake⟩
 . have hr2:=run_append_nil (P:=P) w t ty e i z ht hi hz a m c news hl hnews hm0 (by omega) (by have hb:=hbytes;simp only[Nat.zero_add]at hb;omega);rw[hr2]at hr;injection hr with e1 e2
   subst e1;exact .inr rfl
 . by_cases hroom:n+m<=cap
   . have hfit:n*i.size+news.length<=cur.size:=by rw[hl,hcs,<-Nat.add_mul];exact Nat.mul_le_mul_right _ hroom
     have hr2:=run_append_room (P:=P) w t ty e i ht hi g n cap cur hg a m c news hl hnews h1 hroom hfit;rw[hr2]at hr;injection hr with e1 e2
     subst e1;exact .inl rfl
   . have holds:∀j u,xs[j]?=some u->w.cell? ((⟨g,0,none⟩:Addr).add j)=some u:=hown.cells (g:=g) rfl;have hr2:=run_append_grow (P:=P) w t ty e i z ht hi hz ⟨g,0,none⟩ n cap xs hown.1 holds a m c news hl hnews (by omega) (by omega) (growslice_fits (by omega) hbytes);rw[hr2]at hr;injection hr with e1 e2
     subst e1;exact .inr rfl
theorem qR{P:Program}{w:World}{ops:Array Oper}{rest:List Oper}{o:Oper}{a:Act}{Q:Exit->Act->World->Prop}(hgd:o.guard=none)(s x:Operand)(t:TypeId)
 (ho:o.op=.call {callee:=.builtin .append,args:=#[s,x],argTypes:=#[t,t]})
 (base:Nat)(e:TypeId)(z:Value)(size bytes:Nat)(ht:P.underlying t=some (.slice e))(hE:yb P e z size bytes)
 (v:Value)(n:Nat)(xs:List Value)(hs:a.eval s=v)(hown:w.ownsRow base e size v n xs)
 (news:List Value)(hx:a.eval x=.slice (some ⟨w.heap.size,0,none⟩) 1 1)(hl:news.length=size)(h1:∀u∈news,u.oneCell'=true)
 (h63:n+1<=maxLen)(hbytes:(n+1)*bytes<=140737488355328)(hbase:base<=w.heap.size)
 (h:∀v' w',w'.ownsRow base e size v' (n+1) (xs++news)->(w.alloc (.cells news.toArray e)).grownBy w' v.ownBlock->Below base w w'->
  (v'.ownBlock=v.ownBlock\/v'.ownBlock=some (w.heap.size+1))->wpList P ops Q rest (a.put o.dst v') w'):
 wpList P ops Q (o::rest) a (w.alloc (.cells news.toArray e)):=by
 obtain⟨i,hi,hz,hsize,hby,hzs,hsz⟩:=hE;subst hsize;subst hby;have hnews:∀j u,news[j]?=some u->(w.alloc (.cells news.toArray e)).cell? ((⟨w.heap.size,0,none⟩:Addr).add j)=some u:=by
  intro j u hu;obtain⟨b,o2,ha,hc⟩:=yK w news.toArray e j u (by simpa using hu);simp only[Option.some.injEq,Addr.mk.injEq,and_true]at ha;obtain⟨rfl,rfl⟩:=ha;rw[Addr.add_lit];exact hc
 refine wpList_plain hgd fun K hK=>?_
 obtain⟨v',w',hr,h2,h3,_⟩:=run_append_own (P:=P) (w.alloc (.cells news.toArray e)) base t o.type e i z i.size i.bytes ht hi hz rfl rfl hzs hsz v n xs (hown.alloc _) ⟨w.heap.size,0,none⟩ 1 1 news (by omega) hnews h1 h63 hbytes (by rw[World.size_alloc];omega);have hb:=KO (P:=P) (w.alloc (.cells news.toArray e)) base t o.type e i z ht hi hz v n xs (hown.alloc _) ⟨w.heap.size,0,none⟩ 1 1 news (by omega) hnews h1 (by omega) h63 hbytes hr;rw[World.size_alloc]at hb;unfold Oper.wp execOp;simp only[ho,resolve,invoke,builtin,Sem.run_bind,Sem.run_pure,Result.andThen_ok,List.map_toArray,List.map_cons,List.map_nil,hs,hx,hr];exact hK _ _ (h v' w' h2 h3 (((Below.refl base w).alloc hbase _).grown h3 (by rw[World.size_alloc];omega) fun k hk=>(hown.lt k hk).1) hb)
def Apart(v u:Value):Prop:=∀g,v.ownBlock=some g->u.ownBlock≠some g
theorem Apart.grow{v u v':Value}{k:Nat}(h:Apart v u)(hb:v'.ownBlock=v.ownBlock\/v'.ownBlock=some k)(hk:∀g,u.ownBlock=some g->g<k):Apart v' u:=by
 intro g hg hu;rcases hb with hb|hb
 . exact h g (by rw[<-hb];exact hg) hu
 . rw[hb]at hg;injection hg with hg;have:=hk g hu;omega
theorem za7{w w':World}{base e size:Nat}{v u:Value}{n:Nat}{xs:List Value}{o:Obj}(h:w.ownsRow base e size u n xs)(hg:(w.alloc o).grownBy w' v.ownBlock)(ha:Apart v u):w'.ownsRow base e size u n xs:=by
 refine(h.alloc o).kept hg ?_;cases hu:u.ownBlock with
 |none=>exact .inl rfl
 |some g=>
  right;intro hv;exact ha g hv.symm hu
theorem Apart.symm{v u:Value}(h:Apart v u):Apart u v:=fun g hu hv=>h g hv hu
theorem ze7(f a o:Nat):gm f a 0 o=o:=by
 induction f generalizing a with
 |zero=>rfl
 |succ f ih=>simp only[gm];exact ih _
theorem za0{a b:Nat}(h:a=b):Ending.returned (.int .u8 (a:Int))=.returned (.int .u8 (b:Int)):=by rw[h]
theorem jJ(a:Nat)(ha:a<256):bits .and .u8 (a:Int) 1=((a%2:Nat):Int):=by
 have:=u8_and_nat a 1 ha (by omega);rw[Nat.and_one_is_mod]at this;exact this
theorem js(a b:Nat)(w:World)(ha:a<256)(hb:b<256):
 Calls Tryz.prog 181 #[.int .u8 a,.int .u8 b] w fun e w'=>e=.returned (.int .u8 (zI a b:Nat))/\w=w':=by
 go_enter Tryz.func181,Tryz.ntmps181
 go_wp2_with fail
 go_loop [1,5,6] (fun vb vx vo=>∃y x o f:Nat,vb=.int .u8 y/\vx=.int .i64 x/\vo=.int .i64 o/\y<256/\x<256/\o<256/\Hid (y<2^f)/\Hid (gm f x y o=zI a b)) (fun vb _ _=>(intOf vb).toNat)
 case atStart=>exact⟨b,a,0,8,rfl,rfl,rfl,hb,ha,by omega,hb,by show _=_;unfold zI;rfl⟩
 case round=>
  obtain⟨y,x,o,f,rfl,rfl,rfl,hy,hx,ho,hf,hg⟩:=hrel;by_cases h0:y=0
  . subst h0;have hR:Hid (o=zI a b):=by have:=hg.out;rw[ze7]at this;exact this
    go_wp2_with fail
    go_ret
    exact⟨za0 hR.out,rfl⟩
  . have hx1:=qj o x (by omega) (by omega);have hx2:bits .xor .i64 ((x:Int)*2) 285=((x*2 ^^^ 285:Nat):Int):=qj (x*2) 285 (by omega) (by omega);obtain⟨f,rfl⟩:∃f',f=f'+1:=by
     cases f with
     |zero=>have:=hf.out;simp at this;omega
     |succ f=>exact⟨f,rfl⟩
    have hf2:Hid (y / 2<2^f):=by have:=hf.out;rw[Nat.pow_succ]at this;show _<_;omega
    have hox:=qu ho hx;have hg2:Hid (gm f (xt x) (y / 2) (if y%2=1 then o ^^^ x else o)=zI a b):=hg.out;have hxl:=Vs hx;have hlt:Hid (y / 2<y):=Nat.div_lt_self (by omega) (by omega);have hpar:(y%2=1/\(bits .and .u8 (y:Int) 1==1)=true)\/(y%2=0/\(bits .and .u8 (y:Int) 1==1)=false):=by
     rw[jJ y hy];rcases Nat.mod_two_eq_zero_or_one y with h|h<;>simp[h]
    by_cases h2:255<x*2
    . have hxt:Hid (x*2 ^^^ 285=xt x):=by show _=_;unfold xt;rw[if_pos h2]
      rcases hpar with⟨hp,hpb⟩|⟨hp,hpb⟩
      . have hg3:Hid (gm f (xt x) (y / 2) (o ^^^ x)=zI a b):=by have:=hg2.out;rw[if_pos hp]at this;exact this
        clear hp;go_wp2_with fail
        go_round
        case rel=>exact⟨y / 2,xt x,o ^^^ x,f,by go_num,by rw[<-hxt.out],rfl,by omega,hxl,hox,hf2,hg3⟩
        case measure=>have:=hlt.out;simp[intOf];omega
      . have hg3:Hid (gm f (xt x) (y / 2) o=zI a b):=by have:=hg2.out;rw[if_neg (by omega)]at this;exact this
        clear hp;go_wp2_with fail
        go_round
        case rel=>exact⟨y / 2,xt x,o,f,by go_num,by rw[<-hxt.out],rfl,by omega,hxl,ho,hf2,hg3⟩
        case measure=>have:=hlt.out;simp[intOf];omega
    . have hxt:Hid (x*2=xt x):=by show _=_;unfold xt;rw[if_neg h2]
      rcases hpar with⟨hp,hpb⟩|⟨hp,hpb⟩
      . have hg3:Hid (gm f (xt x) (y / 2) (o ^^^ x)=zI a b):=by have:=hg2.out;rw[if_pos hp]at this;exact this
        clear hp;go_wp2_with fail
        go_round
        case rel=>exact⟨y / 2,xt x,o ^^^ x,f,by go_num,by rw[<-hxt.out];rfl,rfl,by omega,hxl,hox,hf2,hg3⟩
        case measure=>have:=hlt.out;simp[intOf];omega
      . have hg3:Hid (gm f (xt x) (y / 2) o=zI a b):=by have:=hg2.out;rw[if_neg (by omega)]at this;exact this
        clear hp;go_wp2_with fail
        go_round
        case rel=>exact⟨y / 2,xt x,o,f,by go_num,by rw[<-hxt.out];rfl,rfl,by omega,hxl,ho,hf2,hg3⟩
        case measure=>have:=hlt.out;simp[intOf];omega
theorem zcw(a n:Nat)(w:World)(ha:a<256)(hn:n<9223372036854775808):
 Calls Tryz.prog 182 #[.int .u8 a,.int .i64 n] w fun e w'=>e=.returned (.tuple #[.int .u8 (qe a n:Nat),.int .i64 0])/\w=w':=by
 go_enter Tryz.func182,Tryz.ntmps182
 go_wp2_with fail
 go_loop [0,1,6] (fun va vn vo=>∃x m o:Nat,va=.int .u8 x/\vn=.int .i64 m/\vo=.int .u8 o/\x<256/\m<9223372036854775808/\o<256/\Hid (zI o (qe x m)=qe a n)) (fun _ vn _=>(intOf vn).toNat)
 case atStart=>exact⟨a,n,1,rfl,rfl,rfl,ha,hn,by omega,by show _=_;rw[Qq (jD n)]⟩
 case round=>
  obtain⟨x,m,o,rfl,rfl,rfl,hx,hm,ho,hg⟩:=hrel;by_cases h0:m=0
  . subst h0;have hR:Hid (o=qe a n):=by have:=hg.out;simp only[qe]at this;rw[Qp ho]at this;exact this
    go_wp2_with fail
    go_ret2
    exact⟨by rw[<-hR.out];rfl,rfl⟩
  . have hpar:(m%2=1/\(bits .and .i64 (m:Int) 1==1)=true)\/(m%2=0/\(bits .and .i64 (m:Int) 1==1)=false):=by
     rw[kh m hm];rcases Nat.mod_two_eq_zero_or_one m with h|h<;>simp[h]
    have hlt:Hid (m / 2<m):=Nat.div_lt_self (by omega) (by omega);have hsq:Hid (qe (zI x x) (m / 2)=qe x (2*(m / 2))):=zep hx _;have hxx:zI x x<256:=yL hx;rcases hpar with⟨hp,hpb⟩|⟨hp,hpb⟩
    . have hg2:Hid (zI (zI o x) (qe (zI x x) (m / 2))=qe a n):=by
       show _=_;rw[hsq.out,<-hg.out,pU ho hx (jD _)]
       congr 1
       rw[QV hx (jD _)];show qe x (2*(m / 2)+1)=_
       congr 1;omega
      clear hp;have hox:zI o x<256:=yL ho;go_wp2_with fail
      refine(js o x _ ho hx).mono ?_;rintro e w' ⟨rfl,rfl⟩;go_wp2_with fail
      refine(js x x _ hx hx).mono ?_;rintro e w' ⟨rfl,rfl⟩;go_wp2_with fail
      go_round
      case rel=>exact⟨zI x x,m / 2,zI o x,rfl,by go_num,rfl,hxx,by omega,hox,hg2⟩
      case measure=>have:=hlt.out;simp[intOf];omega
    . have hg2:Hid (zI o (qe (zI x x) (m / 2))=qe a n):=by
       show _=_;rw[hsq.out,<-hg.out]
       congr 2;omega
      clear hp;go_wp2_with fail
      refine(js x x _ hx hx).mono ?_;rintro e w' ⟨rfl,rfl⟩;go_wp2_with fail
      go_round
      case rel=>exact⟨zI x x,m / 2,o,rfl,by go_num,rfl,hxx,by omega,ho,hg2⟩
      case measure=>have:=hlt.out;simp[intOf];omega
theorem zcx(a:Nat)(w:World)(ha:a<256)(h0:a≠0):
 Calls Tryz.prog 180 #[.int .u8 a] w fun e w'=>e=.returned (.tuple #[.int .u8 (jX a:Nat),.int .i64 0])/\w=w':=by
 have hz:((a:Int)==0)=false:=by simp;omega
 have hi:Hid (jX a=qe a 254):=Jh ha;have c:=zH (zcw a 254 w ha (by omega));go_enter Tryz.func180,Tryz.ntmps180
 go_wp2_with (go_at_call 182;refine(c.out).mono ?_;rintro e w' ⟨rfl,rfl⟩)
 go_ret2
 exact⟨by rw[hi.out];rfl,rfl⟩
theorem Xo(w:World):
 Calls Tryz.prog 180 #[.int .u8 0] w fun e w'=>e=.returned (.tuple #[.int .u8 0,.int .i64 5])/\w=w':=by
 go_enter Tryz.func180,Tryz.ntmps180
 go_wp2_with fail
 go_ret2
 exact⟨rfl,rfl⟩
theorem zdp(b k:Nat):b%2^k ^^^ (b / 2^k%2)*2^k=b%2^(k+1):=by
 apply Nat.eq_of_testBit_eq;intro j;rw[Nat.testBit_xor,Nat.testBit_mod_two_pow,Nat.testBit_mod_two_pow];have hb:b.testBit k=decide (b / 2^k%2=1):=Nat.testBit_eq_decide_div_mod_eq;rcases Nat.mod_two_eq_zero_or_one (b / 2^k)with h|h
 . rw[h]at hb ⊢;simp only[Nat.zero_mul,Nat.zero_testBit,Bool.xor_false];by_cases hj:j=k
   . subst hj;simp[hb]
   . have:(j<k)↔(j<k+1):=by omega
     simp[this]
 . rw[h]at hb ⊢;simp only[Nat.one_mul];by_cases hj:j=k
   . subst hj;rw[Nat.testBit_two_pow_self];simp[hb]
   . rw[Nat.testBit_two_pow_of_ne (by omega)];have:(j<k)↔(j<k+1):=by omega
     simp[this]
theorem zet(C a b i k:Nat):(C ^^^ (a / 2^i%2*(b%2^k))*2^i) ^^^ (a / 2^i%2*(b / 2^k%2))*2^(i+k)=C ^^^ (a / 2^i%2*(b%2^(k+1)))*2^i:=by
 rw[Nat.xor_assoc]
 congr 1
 rcases Nat.mod_two_eq_zero_or_one (a / 2^i)with h|h
 . simp[h]
 . rw[h];simp only[Nat.one_mul];rw[<-zdp b k,Zx]
   congr 1
   rw[Nat.mul_assoc,<-Nat.pow_add,Nat.add_comm k i]
theorem pv(a b:Nat)(w:World)(ha:a<256)(hb:b<256):
 Calls Tryz.prog 161 #[.int .u8 a,.int .u8 b] w fun e w'=>e=.returned (.int .u8 (zI a b:Nat))/\∃n,w'=w.drewN n:=by
 go_enter Tryz.func161,Tryz.ntmps161
 go_wp2_with fail
 go_loopw [5,9] (fun vx vi wr=>∃i x:Nat,vi=.int .i64 i/\vx=.int .i64 x/\i<=8/\x<32768/\Hid (x=ku i a b)/\∃n,wr=w.drewN n) (fun _ vi _=>8-(intOf vi).toNat)
 case atStart=>exact⟨0,0,rfl,rfl,by omega,by omega,by show _=_;rfl,0,rfl⟩
 case round=>
  obtain⟨i,x,rfl,rfl,hi,hx,hxe,n,rfl⟩:=hrel;by_cases hi8:i<8
  . go_wp2_with fail
    obtain⟨wo,hwo⟩:∃wo:World,wo=w.drewN n:=⟨_,rfl⟩
    go_loopw [5,12] (fun vx vk wr=>∃k y:Nat,vk=.int .i64 k/\vx=.int .i64 y/\k<=8/\y<32768/\Hid (y=ku i a b ^^^ (a / 2^i%2*(b%2^k))*2^i)/\∃n,wr=w.drewN n) (fun _ vk _=>8-(intOf vk).toNat)
    case atStart=>exact⟨0,x,rfl,rfl,by omega,hx,by show _=_;rw[<-hxe.out];simp[Nat.mod_one],n,rfl⟩
    case round=>
     obtain⟨k,y,rfl,rfl,hk,hy,hye,n2,rfl⟩:=hrel;by_cases hk8:k<8
     . go_wp2_with fail
       obtain⟨p,hp⟩:∃p,a / 2^i%2=p:=⟨_,rfl⟩
       obtain⟨q,hq⟩:∃q,b / 2^k%2=q:=⟨_,rfl⟩
       obtain⟨r,hr⟩:∃r,p*q=r:=⟨_,rfl⟩
       obtain⟨S,hS⟩:∃S,r*2^(i+k)=S:=⟨_,rfl⟩
       have hp1:p<=1:=by omega
       have hq1:q<=1:=by omega
       have hr1:r<=1:=by rw[<-hr];exact Nat.mul_le_mul hp1 hq1
       have hS1:S<=16384:=by
        rw[<-hS];have h2:2^(i+k)<=2^14:=Nat.pow_le_pow_right (by omega) (by omega);have:=Nat.mul_le_mul hr1 h2;omega
       have e1:bits .and .u8 ((a:Int) / 2^i) 1=(p:Int):=by
        have h1:((a:Int) / 2^i)=((a / 2^i:Nat):Int):=by push_cast;rfl
        rw[h1,jJ _ (Nat.lt_of_le_of_lt (Nat.div_le_self _ _) ha),hp]
       have e2:bits .and .u8 ((b:Int) / 2^k) 1=(q:Int):=by
        have h1:((b:Int) / 2^k)=((b / 2^k:Nat):Int):=by push_cast;rfl
        rw[h1,jJ _ (Nat.lt_of_le_of_lt (Nat.div_le_self _ _) hb),hq]
       have e3:IntKind.i64.wrap (p:Int)=p:=IntWalk.i64_in _ (by omega);have e4:IntKind.i64.wrap (q:Int)=q:=IntWalk.i64_in _ (by omega);have e5:(p:Int)*(q:Int)=(r:Int):=by rw[<-hr];push_cast;rfl
       have e5':IntKind.i64.wrap (r:Int)=r:=IntWalk.i64_in _ (by omega);have e6:IntKind.i64.wrap ((i:Int)+k)=(i:Int)+k:=IntWalk.i64_in _ (by omega);have e6':((i:Int)+k).toNat=i+k:=by omega
       have e6'':(0:Int)<=(i:Int)+k:=by omega
       have e6''':(i:Int)+k<=64:=by omega
       have e7:IntKind.i64.wrap ((r:Int)*2^(i+k))=(S:Int):=by
        have h1:((r:Int)*2^(i+k))=(S:Int):=by rw[<-hS];push_cast;rfl
        rw[h1];exact IntWalk.i64_in _ (by omega)
       have e8:=qj y S (by omega) (by omega);have hyS:y ^^^ S<32768:=Nat.xor_lt_two_pow (n:=15) (by omega) (by omega);have hnew:Hid (y ^^^ S=ku i a b ^^^ (a / 2^i%2*(b%2^(k+1)))*2^i):=by
        show _=_;rw[hye.out,<-hS,<-hr,<-hp,<-hq];exact zet _ _ _ _ _
       clear hp hq hr hS
       go_quiet (fail)
       clear e1 e2 e3 e4 e5 e5' e6 e6' e6'' e6''' e7 e8;go_wp2_with fail
       go_roundw
       case rel=>exact⟨k+1,y ^^^ S,by go_num,rfl,by omega,hyS,hnew,_,rfl⟩
       case measure=>simp[intOf];omega
     . obtain rfl:k=8:=by omega
       have hfin:Hid (y=ku (i+1) a b):=by
        show _=_;rw[hye.out,Nat.mod_eq_of_lt (show b<2^8 from hb)];rfl
       go_wp2_with fail
       go_roundw
       case rel=>exact⟨i+1,y,by go_num,rfl,by omega,hy,hfin,_,rfl⟩
       case measure=>simp[intOf];omega
  . obtain rfl:i=8:=by omega
    go_wp2_with fail
    go_loop [5,8] (fun vx vk=>∃j y:Nat,vk=.int .i64 ((j:Int)+7)/\vx=.int .i64 y/\j<=7/\y<32768/\Hid (pV j y=pV 7 x)) (fun _ vk=>(intOf vk).toNat)
    case atStart=>exact⟨7,x,rfl,rfl,by omega,hx,by show _=_;rfl⟩
    case round=>
     obtain⟨j,y,rfl,rfl,hj,hy,hred⟩:=hrel;cases j with
     |zero=>
      have hfin:Hid (y%256=zI a b):=by
       show _=_;rw[<-zb0 ha hb];have h1:y=pV 7 x:=hred.out;rw[h1,hxe.out];rfl
      have hwr:IntKind.u8.wrap (y:Int)=((y%256:Nat):Int):=by rw[IntKind.wrap_u8];rfl
      go_wp2_with fail
      go_ret
      exact⟨by first|exact za0 hfin.out|(rw[<-hfin.out];rfl),_,rfl⟩
     |succ j=>
      have h1:((y:Int) / 2^(j+1+7))=((y / 2^(j+8):Nat):Int):=by push_cast;rfl
      have h2:bits .and .i64 ((y:Int) / 2^(j+1+7)) 1=((y / 2^(j+8)%2:Nat):Int):=by
       rw[h1,kh _ (Nat.lt_of_le_of_lt (Nat.div_le_self _ _) (by omega))]
      have hC:285*2^j<=18240:=by
       have h3:2^j<=2^6:=Nat.pow_le_pow_right (by omega) (by omega);omega
      have c1:((285:Int)*2^j)=((285*2^j:Nat):Int):=by rw[Int.natCast_mul,Int.natCast_pow];rfl
      have t1:((j:Int)+1+7-8).toNat=j:=by omega
      have c2:(0:Int)<=285*2^j:=by rw[c1];omega
      have c3:((285:Int)*2^j)<=18240:=by rw[c1];omega
      have c4:IntKind.i64.wrap ((285:Int)*2^j)=285*2^j:=IntWalk.i64_in _ (by omega);have e8:bits .xor .i64 (y:Int) (285*2^j)=((y ^^^ 285*2^j:Nat):Int):=by
       rw[c1];exact qj y _ (by omega) (by omega)
      have hyC:y ^^^ 285*2^j<32768:=Nat.xor_lt_two_pow (n:=15) (by omega) (by omega);have hr2:Hid (pV j (if y / 2^(j+8)%2=1 then y ^^^ 285*2^j else y)=pV 7 x):=hred.out;rcases Nat.mod_two_eq_zero_or_one (y / 2^(j+8))with h|h
      . have hb2:(bits .and .i64 ((y:Int) / 2^(j+1+7)) 1==1)=false:=by rw[h2,h];rfl
        have hr3:Hid (pV j y=pV 7 x):=by have:=hr2.out;rw[if_neg (by omega)]at this;exact this
        clear h h1 h2 c1 hC;go_wp2_with fail
        go_round
        case rel=>exact⟨j,y,by go_num,rfl,by omega,hy,hr3⟩
        case measure=>simp only[intOf];omega
      . have hb2:(bits .and .i64 ((y:Int) / 2^(j+1+7)) 1==1)=true:=by rw[h2,h];rfl
        have hr3:Hid (pV j (y ^^^ 285*2^j)=pV 7 x):=by have:=hr2.out;rw[if_pos h]at this;exact this
        clear h h1 h2 c1 hC;go_wp2_with fail
        go_round
        case rel=>exact⟨j,y ^^^ 285*2^j,by go_num,rfl,by omega,hyC,hr3⟩
        case measure=>simp only[intOf];omega
theorem zdq(a:Nat)(w:World)(ha:a<256):
 Calls Tryz.prog 162 #[.int .u8 a] w fun e w'=>e=.returned (.int .u8 (jX a:Nat))/\∃n,w'=w.drewN n:=by
 have hu:Hid (∀k,qe a (2^k)<256):=fun k=>jD _
 go_enter Tryz.func162,Tryz.ntmps162
 go_wp2_with fail
 go_loopw [0,3,4] (fun va vo vi wr=>∃i x o:Nat,vi=.int .i64 i/\va=.int .u8 x/\vo=.int .u8 o/\i<=7/\x<256/\o<256/\Hid (x=qe a (2^i))/\Hid (o=qe a (2^(i+1)-2))/\∃n,wr=w.drewN n) (fun _ _ vi _=>7-(intOf vi).toNat)
 case atStart=>exact⟨0,a,1,rfl,rfl,rfl,by omega,ha,by omega,by show _=_;rw[Nat.pow_zero,zdi ha],by show _=_;rfl,0,rfl⟩
 case round=>
  obtain⟨i,x,o,rfl,rfl,rfl,hi,hx,ho,hxe,hoe,n,rfl⟩:=hrel;by_cases h7:i<7
  . have hxx:zI x x<256:=yL hx;have hx2:Hid (zI x x=qe a (2^(i+1))):=by
     show _=_;rw[hxe.out,<-j3 ha,Nat.pow_succ];congr 1;omega
    have ho2:zI o (zI x x)<256:=yL ho;have hoe2:Hid (zI o (zI x x)=qe a (2^(i+1+1)-2)):=by
     show _=_;rw[hx2.out,hoe.out,<-j3 ha]
     congr 1
     have:2<=2^(i+1):=Nat.pow_le_pow_right (n:=2) (by omega) (show 1<=i+1 by omega);rw[Nat.pow_succ 2 (i+1)];omega
    go_wp2_with fail
    refine(pv x x _ hx hx).mono ?_;rintro e w' ⟨rfl,n2,rfl⟩;go_wp2_with fail
    refine(pv o (zI x x) _ ho hxx).mono ?_;rintro e w' ⟨rfl,n3,rfl⟩;go_wp2_with fail
    go_roundw
    case rel=>exact⟨i+1,zI x x,zI o (zI x x),by go_num,rfl,rfl,by omega,hxx,ho2,hx2,hoe2,_,rfl⟩
    case measure=>simp[intOf];omega
  . obtain rfl:i=7:=by omega
    have hfin:Hid (o=jX a):=by show _=_;rw[hoe.out,Jh ha]
    go_wp2_with fail
    go_ret
    exact⟨za0 hfin.out,_,rfl⟩
theorem XO(d:Nat)(M:Nat)(h:d<=M):0<=(d:Int)*d/\(d:Int)*d<=(M:Int)*M:=by
 have h1:d*d<=M*M:=Nat.mul_le_mul h h;have h2:((d*d:Nat):Int)=(d:Int)*d:=by push_cast;rfl
 have h3:((M*M:Nat):Int)=(M:Int)*M:=by push_cast;rfl
 omega
theorem ji(n d:Nat)(h:d∣n):((n:Int)%(d:Int)==0)=true:=by
 have:((n%d:Nat):Int)=0:=by rw[Nat.mod_eq_zero_of_dvd h];rfl
 rw[Int.natCast_emod]at this;simp[this]
theorem km(n d:Nat)(h:¬d∣n):((n:Int)%(d:Int)==0)=false:=by
 have h1:n%d≠0:=fun h2=>h (Nat.dvd_of_mod_eq_zero h2)
 have:((n:Int)%(d:Int))=((n%d:Nat):Int):=rfl;rw[this];simp;omega
theorem zaq{n d:Nat}(h:(d:Int)*d<=n):d*d<=n:=by
 have h2:((d*d:Nat):Int)=(d:Int)*d:=by push_cast;rfl
 omega
theorem zfu{n d:Nat}(h:¬(d:Int)*d<=n):n<d*d:=by
 have h2:((d*d:Nat):Int)=(d:Int)*d:=by push_cast;rfl
 omega
theorem zef(n:Nat)(w:World)(hn:n<=1000000):
 Calls Tryz.prog 100 #[.int .i64 n] w fun e w'=>e=.returned (.bool (prB n))/\w=w':=by
 go_enter Tryz.func100,Tryz.ntmps100
 go_wp2_with fail
 go_loop [3] (fun vd=>∃d:Nat,vd=.int .i64 d/\2<=d/\d<=1001/\Hid (NoDiv n d)) (fun vd=>1001-(intOf vd).toNat)
 case atStart=>exact⟨2,rfl,by omega,by omega,NoDiv.start n⟩
 case round=>
  obtain⟨d,rfl,hd,hd2,hno⟩:=hrel;obtain⟨p0,p1⟩:=XO d 1001 hd2;by_cases hsq:(d:Int)*d<=n
  . have hd3:d<=1000:=by
     rcases Nat.lt_or_ge 1000 d with h|h
     . have:=Nat.mul_le_mul (show 1001<=d from h) (show 1001<=d from h);have:=zaq hsq;omega
     . exact h
    by_cases hdv:d∣n
    . have ht:=ji n d hdv;have hR:=zH (q8 (NoDiv.notPrime hd (zaq hsq) hdv));clear hdv
      go_wp2
      go_ret
      exact⟨qi hR.out.symm,rfl⟩
    . have ht:=km n d hdv;have hN:=zH (hno.out.next hdv);clear hdv
      go_wp2
      go_round
      case rel=>exact⟨d+1,by go_num,by omega,by omega,hN⟩
      case measure=>simp[intOf];omega
  . have hlt:=zfu hsq;have hR:Hid (decide ((1:Int)<n)=prB n):=by
     show _=_;by_cases h1:2<=n
     . rw[Qo (hno.out.prime h1 hlt)];simp;omega
     . rw[q8 (fun h=>h1 h.1)];simp;omega
    clear hlt
    go_wp2
    go_ret
    exact⟨qi hR.out,rfl⟩
theorem zar(n:Nat)(w:World)(hn:n<=1000000):
 Calls Tryz.prog 62 #[.int .i64 n] w fun e w'=>e=.returned (.tuple #[.bool (prB n),.int .i64 0])/\w=w':=by
 have h1:decide ((1000000:Int)<n)=false:=by simp;omega
 go_enter Tryz.func62,Tryz.ntmps62
 go_wp2_with (go_at_call 100;refine(zef n _ hn).mono ?_;rintro e w' ⟨rfl,rfl⟩)
 go_ret2
 exact⟨rfl,rfl⟩
theorem K0(n:Int)(w:World)(hn:n<0\/1000000<n):
 Calls Tryz.prog 62 #[.int .i64 n] w fun e w'=>e=.returned (.tuple #[.bool false,.int .i64 1])/\w=w':=by
 by_cases h:n<0
 . go_enter Tryz.func62,Tryz.ntmps62
   go_wp2_with fail
   go_ret2
   exact⟨rfl,rfl⟩
 . have h1:decide (1000000<n)=true:=by simp;omega
   go_enter Tryz.func62,Tryz.ntmps62
   go_wp2_with fail
   go_ret2
   exact⟨rfl,rfl⟩
def IsNext(n p:Nat):Prop:=n<=p/\p<=1000000/\IsPr p/\∀q,n<=q->q<p->¬IsPr q
def zgm(n:Nat):Prop:=∀q,n<=q->q<=1000000->¬IsPr q
noncomputable def zgu(n:Nat):Int×Int:=@ite _ (∃p,IsNext n p) (Classical.propDecidable _) (((Classical.epsilon (IsNext n):Nat):Int),0) (0,4)
theorem IsNext.uniq{n p q:Nat}(h:IsNext n p)(k:IsNext n q):p=q:=by
 rcases Nat.lt_trichotomy p q with h1|h1|h1
 . exact absurd h.2.2.1 (k.2.2.2 p h.1 h1)
 . exact h1
 . exact absurd k.2.2.1 (h.2.2.2 q k.1 h1)
theorem Zt(n:Nat)(w:World)(hn:n<=1000000):
 Calls Tryz.prog 43 #[.int .i64 n] w fun e w'=>e=.returned (.bool (prB n))/\w=w':=by
 by_cases h4:n<4
 . have hR:Hid (((n:Int)==2||(n:Int)==3)=prB n):=by
    show _=_;have h5:=zax n h4;by_cases h6:IsPr n
    . rw[Qo h6];rcases h5.1 h6 with h7|h7<;>subst h7<;>rfl
    . rw[q8 h6];have:n≠2/\n≠3:=by constructor<;>intro h7<;>exact h6 (h5.2 (by omega))
      simp;omega
   by_cases h2:n=2
   . subst h2;go_enter Tryz.func43,Tryz.ntmps43
     go_wp2_with fail
     go_ret
     exact⟨by rw[<-hR.out];rfl,rfl⟩
   . have hz:((n:Int)==2)=false:=by simp;omega
     go_enter Tryz.func43,Tryz.ntmps43
     go_wp2_with fail
     go_ret
     exact⟨by rw[<-hR.out,hz];rfl,rfl⟩
 . by_cases h2:2∣n
   . have t2:((n:Int)%2==0)=true:=ji n 2 h2;have hR:=zH (q8 (jz (by omega) (by omega) h2));clear h2;go_enter Tryz.func43,Tryz.ntmps43
     go_wp2_with fail
     go_ret
     exact⟨qi hR.out.symm,rfl⟩
   . have t2:((n:Int)%2==0)=false:=km n 2 h2;by_cases h3:3∣n
     . have t3:((n:Int)%3==0)=true:=ji n 3 h3;have hR:=zH (q8 (jz (by omega) (by omega) h3));clear h2 h3;go_enter Tryz.func43,Tryz.ntmps43
       go_wp2_with fail
       go_ret
       exact⟨qi hR.out.symm,rfl⟩
     . have t3:((n:Int)%3==0)=false:=km n 3 h3;have H2:=zH h2;have H3:=zH h3;clear h2 h3;go_enter Tryz.func43,Tryz.ntmps43
       go_wp2_with fail
       go_loop [3] (fun vd=>∃d:Nat,vd=.int .i64 d/\5<=d/\d<=1006/\Hid (d%6=5)/\Hid (NoDiv n d)) (fun vd=>1006-(intOf vd).toNat)
       case atStart=>exact⟨5,rfl,by omega,by omega,by show _=_;rfl,NoDiv.five H2.out H3.out⟩
       case round=>
        obtain⟨d,rfl,hd,hd2,hmod,hno⟩:=hrel;obtain⟨p0,p1⟩:=XO d 1006 hd2;by_cases hsq:(d:Int)*d<=n
        . have hd3:d<=1000:=by
           rcases Nat.lt_or_ge 1000 d with h|h
           . have:=Nat.mul_le_mul (show 1001<=d from h) (show 1001<=d from h);have:=zaq hsq;omega
           . exact h
          have hlt:d*5<=n:=Nat.le_trans (Nat.mul_le_mul_left d hd) (zaq hsq);by_cases hdv:d∣n
          . have ht:=ji n d hdv;have hR:=zH (q8 (NoDiv.notPrime (by omega) (zaq hsq) hdv));clear hdv hlt;go_wp2_with fail
            go_ret
            exact⟨qi hR.out.symm,rfl⟩
          . have ht:=km n d hdv;by_cases hdv2:(d+2)∣n
            . have ht2:((n:Int)%((d:Int)+2)==0)=true:=ji n (d+2) hdv2;have hR:=zH (q8 (jz (by omega) (by omega) hdv2));clear hdv hdv2 hlt;go_wp2_with fail
              go_ret
              exact⟨qi hR.out.symm,rfl⟩
            . have ht2:((n:Int)%((d:Int)+2)==0)=false:=km n (d+2) hdv2;have hN:=zH (hno.out.six H2.out H3.out hmod.out hdv hdv2);clear hdv hdv2 hlt;go_wp2_with fail
              go_round
              case rel=>exact⟨d+6,by go_num,by omega,by omega,by have:=hmod.out;show _=_;omega,hN⟩
              case measure=>simp[intOf];omega
        . have hR:=zH (Qo (hno.out.prime (by omega) (zfu hsq)));go_wp2_with fail
          go_ret
          exact⟨qi hR.out.symm,rfl⟩
end Go.Proofs.YtmgfbmkfomebcaaGreatDoor
