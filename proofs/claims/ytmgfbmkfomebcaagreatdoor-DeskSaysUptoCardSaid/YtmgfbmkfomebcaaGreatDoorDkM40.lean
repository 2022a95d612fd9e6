/- (*desk).stored and desk.computed, whatever the command. (Printed by wip/tools/gen_desk4.py.) -/
import Derived.Test.YtmgfbmkfomebcaaGreatDoorDkM39xDeskF
import Derived.Test.YtmgfbmkfomebcaaGreatDoorDkM36xDeskD
import Derived.Test.YtmgfbmkfomebcaaGreatDoorDkM34
import Derived.Defers
import Derived.Recover
import Derived.Tactics
import Derived.Tactics2
import Derived.Laws.Pointers
set_option linter.unusedVariables false
set_option linter.unusedSimpArgs false
set_option maxRecDepth 100000
set_option maxHeartbeats 4000000
namespace Go.Proofs.YtmgfbmkfomebcaaGreatDoor
open Go.RowKit
def Cm.isSt:Cm->Bool
 |.gcd|.factor|.root|.code=>false
 |_=>true
theorem QP{c:ByteArray}(h:∀m:Cm,m.isSt=true->(c.toList==m.name.toList)=false):NotStored c:=by
 have k:∀m:Cm,m.isSt=true->(c.toList==m.name.data.toList)=false:=fun m hm=>by rw[<-ByteArray.toList_eq];exact h m hm
 exact⟨k .put rfl,k .torn rfl,k .get rfl,k .scrub rfl,k .down rfl,k .up rfl,k .lose rfl,k .rot rfl,k .new rfl⟩
theorem zba{c:ByteArray}(h:∀m:Cm,(c.toList==m.name.toList)=false):NotComp c:=by
 have k:∀m:Cm,(c.toList==m.name.data.toList)=false:=fun m=>by rw[<-ByteArray.toList_eq];exact h m
 exact⟨k .gcd,k .factor,k .root,k .code⟩
theorem zfh{m m':Cm}(h:m.name.data.toList≠m'.name.data.toList):(m.name.toList==m'.name.toList)=false:=by
 rw[beq_eq_false_iff_ne,ByteArray.toList_eq,ByteArray.toList_eq];exact h
def zfK(n:Int)(w:World)(e:Ending)(w':World):Prop:=e=.panicked [{v:=vD n,recovered:=false}]/\Below w.heap.size w w'
def jN(s:DS)(ws:List ByteArray)(m:Cm):Prop:=
 ∀{w:World} {base:Nat} {Av:Nat->Prop} {D:Nat} (_:HasDsk w base Av D s) (_:DkW w) (_:8<=base) (ao:Option Addr) (len cap:Nat) (_:StrsIn w ao len ws),
  Calls Tryz.prog 19 #[.pointer (some ⟨D,0,none⟩),.string m.name,.slice ao len cap] w (yy base Av D (zK s ws m) w)
def pQ(s:DS)(ws:List ByteArray)(m:Cm)(n:Int):Prop:=
 (zK s ws m).2=zt n/\0<=n/\n<=12/\∀{w:World} {base:Nat} {Av:Nat->Prop} {D:Nat} (_:HasDsk w base Av D s) (_:DkW w) (_:8<=base) (ao:Option Addr) (len cap:Nat) (_:StrsIn w ao len ws),
  Calls Tryz.prog 19 #[.pointer (some ⟨D,0,none⟩),.string m.name,.slice ao len cap] w (zA base Av D (zK s ws m).1 n w)
def zcI(c:ByteArray)(ws:List ByteArray)(T:ByteArray):Prop:=
 ∀{w:World} (_:DkW w) (ao:Option Addr) (len cap:Nat) (_:StrsIn w ao len ws),Calls Tryz.prog 20 #[.string c,.slice ao len cap] w (zq T w)
def V1(c:ByteArray)(ws:List ByteArray)(T:ByteArray)(n:Int):Prop:=
 T=zt n/\0<=n/\n<=12/\∀{w:World} (_:DkW w) (ao:Option Addr) (len cap:Nat) (_:StrsIn w ao len ws),Calls Tryz.prog 20 #[.string c,.slice ao len cap] w (zfK n w)
theorem jm{w:World}{n:Int}{f:FuncId}{args:Array Value}(c:Calls Tryz.prog f args w fun e w'=>e=dkPanic n/\Below w.heap.size w w'):Calls Tryz.prog f args w (zfK n w):=c
theorem Ya(s:DS)(hs:s.ok)(ho:Okst s.st)(ws:List ByteArray):jN s ws .put\/∃n,pQ s ws .put n:=by
 cases hF:zB Cm.put.form ws with
 |none=>
  have e:zK s ws .put=(s,zt 12):=by unfold zK;rw[hF]
  refine .inr ⟨12,by rw[e],by omega,by omega,?_⟩;rw[e];exact fun h hW hbs ao len cap hI=>YM h hW hbs ws ao len cap hI hF
 |some y=>
  obtain⟨x,t⟩:=y;obtain⟨a,rfl⟩:=J2 (show x.length=1 from(zu hF).1);have e:zK s ws .put=yk s 1 a 0 t:=by unfold zK;rw[hF];rfl
  have hT:=yJ (n:=s.n) (k:=s.k) (wr:=s.wr) (r:=s.r) ho hs.1 1 (a:Int) 0 t;obtain⟨R,hR⟩:∃R,doneF s 1 (a:Int) 0 t=R:=⟨_,rfl⟩
  rw[show doF s.n s.k s.wr s.r s.st 1 (a:Int) 0 t=R from hR]at hT;obtain⟨st',tl,E⟩:=R;by_cases hE:E=0
  . subst hE;refine .inl ?_;unfold jN;rw[e];exact fun h hW hbs ao len cap hI=>XV h hW hbs ws a t ao len cap hI hF hR
  . have hQ:yk s 1 a 0 t=({s with st:=st'},zt (E:Int)):=by
     have hR':doF s.n s.k s.wr s.r s.st ((1:Nat):Int) ((a:Nat):Int) ((0:Nat):Int) t=(st',tl,E):=hR;unfold yk yq;rw[hR',if_pos hE]
    rw[hQ]at e;have hE11:E<=11:=hT.e;refine .inr ⟨(E:Int),by rw[e],by omega,by omega,?_⟩;rw[e];exact fun h hW hbs ao len cap hI=>YQ h hW hbs ws a t ao len cap hI hF hR hE
theorem Zl(s:DS)(hs:s.ok)(ho:Okst s.st)(ws:List ByteArray):jN s ws .torn\/∃n,pQ s ws .torn n:=by
 cases hF:zB Cm.torn.form ws with
 |none=>
  have e:zK s ws .torn=(s,zt 12):=by unfold zK;rw[hF]
  refine .inr ⟨12,by rw[e],by omega,by omega,?_⟩;rw[e];exact fun h hW hbs ao len cap hI=>ZS h hW hbs ws ao len cap hI hF
 |some y=>
  obtain⟨x,t⟩:=y;obtain⟨a,b,rfl⟩:=zfe (show x.length=2 from(zu hF).1);have e:zK s ws .torn=yk s 2 a b t:=by unfold zK;rw[hF];rfl
  have hT:=yJ (n:=s.n) (k:=s.k) (wr:=s.wr) (r:=s.r) ho hs.1 2 (a:Int) (b:Int) t;obtain⟨R,hR⟩:∃R,doneF s 2 (a:Int) (b:Int) t=R:=⟨_,rfl⟩
  rw[show doF s.n s.k s.wr s.r s.st 2 (a:Int) (b:Int) t=R from hR]at hT;obtain⟨st',tl,E⟩:=R;by_cases hE:E=0
  . subst hE;refine .inl ?_;unfold jN;rw[e];exact fun h hW hbs ao len cap hI=>YR h hW hbs ws a b t ao len cap hI hF hR
  . have hQ:yk s 2 a b t=({s with st:=st'},zt (E:Int)):=by
     have hR':doF s.n s.k s.wr s.r s.st ((2:Nat):Int) ((a:Nat):Int) ((b:Nat):Int) t=(st',tl,E):=hR;unfold yk yq;rw[hR',if_pos hE]
    rw[hQ]at e;have hE11:E<=11:=hT.e;refine .inr ⟨(E:Int),by rw[e],by omega,by omega,?_⟩;rw[e];exact fun h hW hbs ao len cap hI=>ZV h hW hbs ws a b t ao len cap hI hF hR hE
theorem Yb(s:DS)(hs:s.ok)(ho:Okst s.st)(ws:List ByteArray):jN s ws .get\/∃n,pQ s ws .get n:=by
 cases hF:zB Cm.get.form ws with
 |none=>
  have e:zK s ws .get=(s,zt 12):=by unfold zK;rw[hF]
  refine .inr ⟨12,by rw[e],by omega,by omega,?_⟩;rw[e];exact fun h hW hbs ao len cap hI=>YN h hW hbs ws ao len cap hI hF
 |some y=>
  obtain⟨x,t⟩:=y;obtain⟨a,rfl⟩:=J2 (show x.length=1 from(zu hF).1);have e:zK s ws .get=yk s 3 a 0 ByteArray.empty:=by unfold zK;rw[hF];rfl
  have hT:=yJ (n:=s.n) (k:=s.k) (wr:=s.wr) (r:=s.r) ho hs.1 3 (a:Int) 0 ⟨#[]⟩;obtain⟨R,hR⟩:∃R,doneF s 3 (a:Int) 0 ⟨#[]⟩=R:=⟨_,rfl⟩
  rw[show doF s.n s.k s.wr s.r s.st 3 (a:Int) 0 ⟨#[]⟩=R from hR]at hT;obtain⟨st',tl,E⟩:=R;by_cases hE:E=0
  . subst hE;refine .inl ?_;unfold jN;rw[e];exact fun h hW hbs ao len cap hI=>XX h hW hbs ws a t ao len cap hI hF hR
  . have hQ:yk s 3 a 0 ByteArray.empty=({s with st:=st'},zt (E:Int)):=by
     have hR':doF s.n s.k s.wr s.r s.st ((3:Nat):Int) ((a:Nat):Int) ((0:Nat):Int) ByteArray.empty=(st',tl,E):=hR;unfold yk yq;rw[hR',if_pos hE]
    rw[hQ]at e;have hE11:E<=11:=hT.e;refine .inr ⟨(E:Int),by rw[e],by omega,by omega,?_⟩;rw[e];exact fun h hW hbs ao len cap hI=>YS h hW hbs ws a t ao len cap hI hF hR hE
theorem QQ(s:DS)(hs:s.ok)(ho:Okst s.st)(ws:List ByteArray):jN s ws .scrub\/∃n,pQ s ws .scrub n:=by
 cases hF:zB Cm.scrub.form ws with
 |none=>
  have e:zK s ws .scrub=(s,zt 12):=by unfold zK;rw[hF]
  refine .inr ⟨12,by rw[e],by omega,by omega,?_⟩;rw[e];exact fun h hW hbs ao len cap hI=>Q2 h hW hbs ws ao len cap hI hF
 |some y=>
  obtain⟨x,t⟩:=y;obtain⟨a,rfl⟩:=J2 (show x.length=1 from(zu hF).1);have e:zK s ws .scrub=yk s 8 a 0 ByteArray.empty:=by unfold zK;rw[hF];rfl
  have hT:=yJ (n:=s.n) (k:=s.k) (wr:=s.wr) (r:=s.r) ho hs.1 8 (a:Int) 0 ⟨#[]⟩;obtain⟨R,hR⟩:∃R,doneF s 8 (a:Int) 0 ⟨#[]⟩=R:=⟨_,rfl⟩
  rw[show doF s.n s.k s.wr s.r s.st 8 (a:Int) 0 ⟨#[]⟩=R from hR]at hT;obtain⟨st',tl,E⟩:=R;by_cases hE:E=0
  . subst hE;refine .inl ?_;unfold jN;rw[e];exact fun h hW hbs ao len cap hI=>ZW h hW hbs ws a t ao len cap hI hF hR
  . have hQ:yk s 8 a 0 ByteArray.empty=({s with st:=st'},zt (E:Int)):=by
     have hR':doF s.n s.k s.wr s.r s.st ((8:Nat):Int) ((a:Nat):Int) ((0:Nat):Int) ByteArray.empty=(st',tl,E):=hR;unfold yk yq;rw[hR',if_pos hE]
    rw[hQ]at e;have hE11:E<=11:=hT.e;refine .inr ⟨(E:Int),by rw[e],by omega,by omega,?_⟩;rw[e];exact fun h hW hbs ao len cap hI=>Q3 h hW hbs ws a t ao len cap hI hF hR hE
theorem Zm(s:DS)(hs:s.ok)(ho:Okst s.st)(ws:List ByteArray):jN s ws .down\/∃n,pQ s ws .down n:=by
 cases hF:zB Cm.down.form ws with
 |none=>
  have e:zK s ws .down=(s,zt 12):=by unfold zK;rw[hF]
  refine .inr ⟨12,by rw[e],by omega,by omega,?_⟩;rw[e];exact fun h hW hbs ao len cap hI=>ZT h hW hbs ws ao len cap hI hF
 |some y=>
  obtain⟨x,t⟩:=y;obtain⟨a,rfl⟩:=J2 (show x.length=1 from(zu hF).1);have e:zK s ws .down=yk s 4 0 a ByteArray.empty:=by unfold zK;rw[hF];rfl
  have hT:=yJ (n:=s.n) (k:=s.k) (wr:=s.wr) (r:=s.r) ho hs.1 4 0 (a:Int) ⟨#[]⟩;obtain⟨R,hR⟩:∃R,doneF s 4 0 (a:Int) ⟨#[]⟩=R:=⟨_,rfl⟩
  rw[show doF s.n s.k s.wr s.r s.st 4 0 (a:Int) ⟨#[]⟩=R from hR]at hT;obtain⟨st',tl,E⟩:=R;by_cases hE:E=0
  . subst hE;refine .inl ?_;unfold jN;rw[e];exact fun h hW hbs ao len cap hI=>YT h hW hbs ws a t ao len cap hI hF hR
  . have hQ:yk s 4 0 a ByteArray.empty=({s with st:=st'},zt (E:Int)):=by
     have hR':doF s.n s.k s.wr s.r s.st ((4:Nat):Int) ((0:Nat):Int) ((a:Nat):Int) ByteArray.empty=(st',tl,E):=hR;unfold yk yq;rw[hR',if_pos hE]
    rw[hQ]at e;have hE11:E<=11:=hT.e;refine .inr ⟨(E:Int),by rw[e],by omega,by omega,?_⟩;rw[e];exact fun h hW hbs ao len cap hI=>ZX h hW hbs ws a t ao len cap hI hF hR hE
theorem XA(s:DS)(hs:s.ok)(ho:Okst s.st)(ws:List ByteArray):jN s ws .up\/∃n,pQ s ws .up n:=by
 cases hF:zB Cm.up.form ws with
 |none=>
  have e:zK s ws .up=(s,zt 12):=by unfold zK;rw[hF]
  refine .inr ⟨12,by rw[e],by omega,by omega,?_⟩;rw[e];exact fun h hW hbs ao len cap hI=>XU h hW hbs ws ao len cap hI hF
 |some y=>
  obtain⟨x,t⟩:=y;obtain⟨a,rfl⟩:=J2 (show x.length=1 from(zu hF).1);have e:zK s ws .up=yk s 5 0 a ByteArray.empty:=by unfold zK;rw[hF];rfl
  have hT:=yJ (n:=s.n) (k:=s.k) (wr:=s.wr) (r:=s.r) ho hs.1 5 0 (a:Int) ⟨#[]⟩;obtain⟨R,hR⟩:∃R,doneF s 5 0 (a:Int) ⟨#[]⟩=R:=⟨_,rfl⟩
  rw[show doF s.n s.k s.wr s.r s.st 5 0 (a:Int) ⟨#[]⟩=R from hR]at hT;obtain⟨st',tl,E⟩:=R;by_cases hE:E=0
  . subst hE;refine .inl ?_;unfold jN;rw[e];exact fun h hW hbs ao len cap hI=>Kr h hW hbs ws a t ao len cap hI hF hR
  . have hQ:yk s 5 0 a ByteArray.empty=({s with st:=st'},zt (E:Int)):=by
     have hR':doF s.n s.k s.wr s.r s.st ((5:Nat):Int) ((0:Nat):Int) ((a:Nat):Int) ByteArray.empty=(st',tl,E):=hR;unfold yk yq;rw[hR',if_pos hE]
    rw[hQ]at e;have hE11:E<=11:=hT.e;refine .inr ⟨(E:Int),by rw[e],by omega,by omega,?_⟩;rw[e];exact fun h hW hbs ao len cap hI=>XY h hW hbs ws a t ao len cap hI hF hR hE
theorem Zn(s:DS)(hs:s.ok)(ho:Okst s.st)(ws:List ByteArray):jN s ws .lose\/∃n,pQ s ws .lose n:=by
 cases hF:zB Cm.lose.form ws with
 |none=>
  have e:zK s ws .lose=(s,zt 12):=by unfold zK;rw[hF]
  refine .inr ⟨12,by rw[e],by omega,by omega,?_⟩;rw[e];exact fun h hW hbs ao len cap hI=>ZU h hW hbs ws ao len cap hI hF
 |some y=>
  obtain⟨x,t⟩:=y;obtain⟨a,rfl⟩:=J2 (show x.length=1 from(zu hF).1);have e:zK s ws .lose=yk s 6 0 a ByteArray.empty:=by unfold zK;rw[hF];rfl
  have hT:=yJ (n:=s.n) (k:=s.k) (wr:=s.wr) (r:=s.r) ho hs.1 6 0 (a:Int) ⟨#[]⟩;obtain⟨R,hR⟩:∃R,doneF s 6 0 (a:Int) ⟨#[]⟩=R:=⟨_,rfl⟩
  rw[show doF s.n s.k s.wr s.r s.st 6 0 (a:Int) ⟨#[]⟩=R from hR]at hT;obtain⟨st',tl,E⟩:=R;by_cases hE:E=0
  . subst hE;refine .inl ?_;unfold jN;rw[e];exact fun h hW hbs ao len cap hI=>YU h hW hbs ws a t ao len cap hI hF hR
  . have hQ:yk s 6 0 a ByteArray.empty=({s with st:=st'},zt (E:Int)):=by
     have hR':doF s.n s.k s.wr s.r s.st ((6:Nat):Int) ((0:Nat):Int) ((a:Nat):Int) ByteArray.empty=(st',tl,E):=hR;unfold yk yq;rw[hR',if_pos hE]
    rw[hQ]at e;have hE11:E<=11:=hT.e;refine .inr ⟨(E:Int),by rw[e],by omega,by omega,?_⟩;rw[e];exact fun h hW hbs ao len cap hI=>ZY h hW hbs ws a t ao len cap hI hF hR hE
theorem Yc(s:DS)(hs:s.ok)(ho:Okst s.st)(ws:List ByteArray):jN s ws .rot\/∃n,pQ s ws .rot n:=by
 cases hF:zB Cm.rot.form ws with
 |none=>
  have e:zK s ws .rot=(s,zt 12):=by unfold zK;rw[hF]
  refine .inr ⟨12,by rw[e],by omega,by omega,?_⟩;rw[e];exact fun h hW hbs ao len cap hI=>YO h hW hbs ws ao len cap hI hF
 |some y=>
  obtain⟨x,t⟩:=y;obtain⟨a,b,rfl⟩:=zfe (show x.length=2 from(zu hF).1);have e:zK s ws .rot=yk s 7 b a ByteArray.empty:=by unfold zK;rw[hF];rfl
  have hT:=yJ (n:=s.n) (k:=s.k) (wr:=s.wr) (r:=s.r) ho hs.1 7 (b:Int) (a:Int) ⟨#[]⟩;obtain⟨R,hR⟩:∃R,doneF s 7 (b:Int) (a:Int) ⟨#[]⟩=R:=⟨_,rfl⟩
  rw[show doF s.n s.k s.wr s.r s.st 7 (b:Int) (a:Int) ⟨#[]⟩=R from hR]at hT;obtain⟨st',tl,E⟩:=R;by_cases hE:E=0
  . subst hE;refine .inl ?_;unfold jN;rw[e];exact fun h hW hbs ao len cap hI=>XZ h hW hbs ws a b t ao len cap hI hF hR
  . have hQ:yk s 7 b a ByteArray.empty=({s with st:=st'},zt (E:Int)):=by
     have hR':doF s.n s.k s.wr s.r s.st ((7:Nat):Int) ((b:Nat):Int) ((a:Nat):Int) ByteArray.empty=(st',tl,E):=hR;unfold yk yq;rw[hR',if_pos hE]
    rw[hQ]at e;have hE11:E<=11:=hT.e;refine .inr ⟨(E:Int),by rw[e],by omega,by omega,?_⟩;rw[e];exact fun h hW hbs ao len cap hI=>YV h hW hbs ws a b t ao len cap hI hF hR hE
theorem Yd(s:DS)(hs:s.ok)(ho:Okst s.st)(ws:List ByteArray):jN s ws .new\/∃n,pQ s ws .new n:=by
 cases hF:zB Cm.new.form ws with
 |none=>
  have e:zK s ws .new=(s,zt 12):=by unfold zK;rw[hF]
  refine .inr ⟨12,by rw[e],by omega,by omega,?_⟩;rw[e];exact fun h hW hbs ao len cap hI=>YP h hW hbs ws ao len cap hI hF
 |some y=>
  obtain⟨x,t⟩:=y;obtain⟨a,b,c,d,rfl⟩:=zgk (show x.length=4 from(zu hF).1);have e:zK s ws .new=zao s a b c d:=by unfold zK;rw[hF];rfl
  unfold zao at e;by_cases hq:qp (a:Int) b c d=0
  . rw[if_neg (by simp[hq])]at e;refine .inl ?_;unfold jN;rw[e];exact fun h hW hbs ao len cap hI=>X0 h hW hbs ws a b c d t ao len cap hI hF hq
  . rw[if_pos hq]at e;have hE:0<=qp (a:Int) b c d/\qp (a:Int) b c d<=12:=by unfold qp;split<;>(try split)<;>omega
    refine .inr ⟨qp (a:Int) b c d,by rw[e],hE.1,hE.2,?_⟩;rw[e];exact fun h hW hbs ao len cap hI=>YW h hW hbs ws a b c d t ao len cap hI hF hq
theorem zaj(s:DS)(hs:s.ok)(ho:Okst s.st)(ws:List ByteArray)(m:Cm)(hm:m.isSt=true):jN s ws m\/∃n,pQ s ws m n:=by
 cases m
 case put=>exact Ya s hs ho ws
 case torn=>exact Zl s hs ho ws
 case get=>exact Yb s hs ho ws
 case scrub=>exact QQ s hs ho ws
 case down=>exact Zm s hs ho ws
 case up=>exact XA s hs ho ws
 case lose=>exact Zn s hs ho ws
 case rot=>exact Yc s hs ho ws
 case new=>exact Yd s hs ho ws
 all_goals cases hm
theorem pR(D:Nat)(m:Cm)(hm:m.isSt=false)(ao:Option Addr)(len cap:Nat)(w:World):
 Calls Tryz.prog 19 #[.pointer (some ⟨D,0,none⟩),.string m.name,.slice ao len cap] w fun e w'=>e=.returned (.tuple #[.string ⟨#[]⟩,.bool false])/\w=w':=by
 refine ZD D m.name ao len cap w (QP fun m' hm'=>zfh ?_);cases m<;>cases m'<;>first|decide|exact absurd hm (by decide)|exact absurd hm' (by decide)
theorem Vf(s:DS)(ws:List ByteArray):zcI Cm.gcd.name ws (zK s ws .gcd).2\/∃n,V1 Cm.gcd.name ws (zK s ws .gcd).2 n:=by
 cases hF:zB Cm.gcd.form ws with
 |none=>
  have e:zK s ws .gcd=(s,zt 12):=by unfold zK;rw[hF]
  rw[e];exact .inr ⟨12,rfl,by omega,by omega,fun hW ao len cap hI=>jm (Zj ws ao len cap _ hI hF)⟩
 |some y=>
  obtain⟨x,t⟩:=y;obtain⟨a,b,rfl⟩:=zfe (show x.length=2 from(zu hF).1);have e:zK s ws .gcd=(s,jU a b):=by unfold zK;rw[hF];rfl
  rw[e];exact .inl fun hW ao len cap hI=>Z7 ws a b t ao len cap _ hW hI hF
theorem Zo(s:DS)(ws:List ByteArray):zcI Cm.factor.name ws (zK s ws .factor).2\/∃n,V1 Cm.factor.name ws (zK s ws .factor).2 n:=by
 cases hF:zB Cm.factor.form ws with
 |none=>
  have e:zK s ws .factor=(s,zt 12):=by unfold zK;rw[hF]
  rw[e];exact .inr ⟨12,rfl,by omega,by omega,fun hW ao len cap hI=>jm (pK ws ao len cap _ hI hF)⟩
 |some y=>
  obtain⟨x,t⟩:=y;obtain⟨a,rfl⟩:=J2 (show x.length=1 from(zu hF).1);have e:zK s ws .factor=(s,ki a):=by unfold zK;rw[hF];rfl
  rw[e];unfold ki;by_cases hn:a<1\/1000000<a
  . rw[if_pos hn];exact .inr ⟨_,rfl,by omega,by omega,fun hW ao len cap hI=>jm (pL ws a t ao len cap _ hW hI hF hn)⟩
  . rw[if_neg hn];exact .inl fun hW ao len cap hI=>Qd ws a t ao len cap _ hW hI hF (by omega) (by omega)
theorem XB(s:DS)(ws:List ByteArray):zcI Cm.root.name ws (zK s ws .root).2\/∃n,V1 Cm.root.name ws (zK s ws .root).2 n:=by
 cases hF:zB Cm.root.form ws with
 |none=>
  have e:zK s ws .root=(s,zt 12):=by unfold zK;rw[hF]
  rw[e];exact .inr ⟨12,rfl,by omega,by omega,fun hW ao len cap hI=>jm (QE ws ao len cap _ hI hF)⟩
 |some y=>
  obtain⟨x,t⟩:=y;obtain⟨a,b,rfl⟩:=zfe (show x.length=2 from(zu hF).1);have e:zK s ws .root=(s,kj a b):=by unfold zK;rw[hF];rfl
  rw[e];unfold kj;by_cases hn:1000000<b\/prB b=false
  . rw[if_pos hn];exact .inr ⟨_,rfl,by omega,by omega,fun hW ao len cap hI=>jm (QG ws a b t ao len cap _ hW hI hF (hn.elim .inl fun h=>.inr (Jc.1 h)))⟩
  . rw[if_neg hn];have hp:IsPr b:=by
     cases hb:prB b with
     |true=>exact Yj.1 hb
     |false=>exact absurd (.inr hb) hn
    have hb6:b<=1000000:=by omega
    rcases Zr (a:Int) b with⟨x,hx,hr⟩|⟨hx,hr⟩
    . rw[hx,if_neg (by omega)];exact .inl fun hW ao len cap hI=>Zg ws a b t ao len cap _ hW hI hF hp hb6 x hr
    . rw[hx,if_pos (by omega)];exact .inr ⟨_,rfl,by omega,by omega,fun hW ao len cap hI=>jm (pZ ws a b t ao len cap _ hW hI hF hp hb6 hr)⟩
theorem XC(s:DS)(ws:List ByteArray):zcI Cm.code.name ws (zK s ws .code).2\/∃n,V1 Cm.code.name ws (zK s ws .code).2 n:=by
 cases hF:zB Cm.code.form ws with
 |none=>
  have e:zK s ws .code=(s,zt 12):=by unfold zK;rw[hF]
  rw[e];exact .inr ⟨12,rfl,by omega,by omega,fun hW ao len cap hI=>jm (QF ws ao len cap _ hI hF)⟩
 |some y=>
  obtain⟨x,t⟩:=y;obtain⟨a,rfl⟩:=J2 (show x.length=1 from(zu hF).1);have e:zK s ws .code=(s,po a):=by unfold zK;rw[hF];rfl
  rw[e];unfold po;by_cases hn:2047<a
  . rw[if_pos hn];by_cases h6:65535<a
    . exact .inr ⟨_,rfl,by omega,by omega,fun hW ao len cap hI=>jm (QH ws a t ao len cap _ hW hI hF h6)⟩
    . exact .inr ⟨_,rfl,by omega,by omega,fun hW ao len cap hI=>jm (QI ws a t ao len cap _ hW hI hF hn (by omega))⟩
  . rw[if_neg hn];exact .inl fun hW ao len cap hI=>Zh ws a t ao len cap _ hW hI hF (by omega)
theorem Vg(s:DS)(ws:List ByteArray)(m:Cm)(hm:m.isSt=false):(zcI m.name ws (zK s ws m).2\/∃n,V1 m.name ws (zK s ws m).2 n)/\(zK s ws m).1=s:=by
 refine⟨?_,?_⟩
 . cases m
   case gcd=>exact Vf s ws
   case factor=>exact Zo s ws
   case root=>exact XB s ws
   case code=>exact XC s ws
   all_goals cases hm
 . unfold zK;cases zB m.form ws with
   |none=>rfl
   |some y=>cases m<;>first|rfl|exact absurd hm (by decide)
theorem Ye(c:ByteArray)(hc:pm c=none)(ws:List ByteArray):V1 c ws (zt 12) 12:=
 ⟨rfl,by omega,by omega,fun _ ao len cap _=>jm (X5 c ao len cap _ (zba fun m=>Zs hc m))⟩
theorem XD(D:Nat)(c:ByteArray)(hc:pm c=none)(ao:Option Addr)(len cap:Nat)(w:World):
 Calls Tryz.prog 19 #[.pointer (some ⟨D,0,none⟩),.string c,.slice ao len cap] w fun e w'=>e=.returned (.tuple #[.string ⟨#[]⟩,.bool false])/\w=w':=
 ZD D c ao len cap w (QP fun m _=>Zs hc m)
abbrev CLO:Nat:=15
theorem zez(n:Int)(w:World):(Instr.typeAssert (.iface 51 (.agg #[.int .i64 n])) 20 51 true).run Tryz.prog w=.ok (.tuple #[.agg #[.int .i64 n],.bool true]) w:=by kernel_rfl
theorem zeA(w:World):(binOp .neq 20 .nilIface .nilIface).run Tryz.prog w=.ok (.bool false) w:=by kernel_rfl
theorem YZ(p:Addr)(w:World):
 CallsD Tryz.prog 15 #[.pointer (some p)] .returning w fun e u' w'=>e=.returned (.tuple #[])/\u'=.returning/\w'=w:=by
 have hnn:=zeA;refine callsD_of_wpS Tryz.func15 rfl fun c₀ cs hu=>?_
 apply wpS_seq;apply wpS_region;simp[wpOpsS,go_sem,recoverD,hu,Tryz.ntmps15,Exit.thenS];refine wpS_of_wp ?_;rw[show(#[Value.pointer (some p)]++((Array.replicate 18 undef).setIfInBounds 3 Value.nilIface).setIfInBounds 0 Value.nilIface:Array Value)=#[.pointer (some p),.nilIface,undef,undef,.nilIface,undef,undef,undef,undef,undef,undef,undef,undef,undef,undef,undef,undef,undef,undef] by kernel_rfl];go_wp2_with fail
 exact⟨rfl,.returning,by cases c₀;simp at hu;subst hu;rfl,.tuple #[],results_none rfl _ _ _,rfl,rfl,rfl⟩
theorem Z0(L:Nat)(old:ByteArray)(n:Int)(h0:0<=n)(h12:n<=12)(older:List PanicEntry)(w:World)(hW:DkW w)(hc:w.heap[L]?=some (.cells #[.string old] 9 (0,0))):
 CallsD Tryz.prog 15 #[.pointer (some ⟨L,0,none⟩)] (.panicking ({v:=vD n,recovered:=false}::older)) w fun e u' w'=>
  e=.returned (.tuple #[])/\u'=.panicking ({v:=vD n,recovered:=true}::older)/\∃w2,Below w.heap.size w w2/\w'=w2.setCell ⟨L,0,none⟩ (.string (zt n)):=by
 refine callsD_of_wpS Tryz.func15 rfl fun c₀ cs hu=>?_
 unfold vD at hu;have hta:=zez;have CI:=zH fun W (hw:DkW W)=>qa n (by omega) (by omega) W hw
 unfold zq at CI;have hSz:=ya n (by omega) (by omega);unfold zt;obtain⟨S,hS⟩:∃S,zS n=S:=⟨_,rfl⟩
 rw[hS]at CI hSz ⊢;obtain⟨W1,hW1⟩:∃W1,w.alloc (.cells #[.int .i64 n] 51)=W1:=⟨_,rfl⟩
 have hb1:Below w.heap.size w W1:=by rw[<-hW1];exact zc _ _
 have hh1:W1.heap[w.heap.size]?=some (.cells #[.int .i64 n] 51 (0,0)):=by rw[<-hW1];exact heap_alloc_new _ _
 have x0:=zd hh1 0;simp only[List.getElem?_toArray,List.getElem?_cons_zero,List.getElem?_cons_succ]at x0;have hw1:=zH (hW.below hb1);have HB1:=zH hb1;have HC:=zH hc;have HLT:Hid (L<w.heap.size):=zH (Array.getElem?_eq_some_iff.1 hc).1;clear hS hb1 hh1 hc;apply wpS_seq;apply wpS_region;simp[wpOpsS,go_sem,recoverD,hu,Tryz.ntmps15,Exit.thenS];refine wpS_of_wp ?_;rw[show(#[Value.pointer (some ⟨L,0,none⟩)]++((Array.replicate 18 undef).setIfInBounds 3 (.iface 51 (.agg #[.int .i64 n]))).setIfInBounds 0 (.iface 51 (.agg #[.int .i64 n])):Array Value)=#[.pointer (some ⟨L,0,none⟩),.iface 51 (.agg #[.int .i64 n]),undef,undef,.iface 51 (.agg #[.int .i64 n]),undef,undef,undef,undef,undef,undef,undef,undef,undef,undef,undef,undef,undef,undef] by kernel_rfl];go_wp2_with fail
 (with_reducible refine(CI.out _ hw1.out).mono ?_);rintro e w2 ⟨rfl,hb2⟩
 have hb:=HB1.out.trans (hb2.mono HB1.out.size);have hh2:=(hb.block L HLT.out).trans HC.out;have q0:=zd hh2 0;simp only[List.getElem?_toArray,List.getElem?_cons_zero,List.getElem?_cons_succ]at q0;have f0:=zm hh2 0;go_wp2_with fail
 exact⟨rfl,_,rfl,.tuple #[],results_none rfl _ _ _,rfl,rfl,w2,hb,rfl⟩
end Go.Proofs.YtmgfbmkfomebcaaGreatDoor
