/- The reference's writeOf. (Printed by wip/tools/gen_ref4.py.) -/
import Derived.Test.YtmgfbmkfomebcaaGreatDoorDkM25xRef4
import Derived.Test.YtmgfbmkfomebcaaGreatDoorDkM28xRef4T
import Derived.Test.YtmgfbmkfomebcaaGreatDoorDkM12
import Derived.Test.YtmgfbmkfomebcaaGreatDoorDkM16
import Derived.Test.YtmgfbmkfomebcaaGreatDoorDkM1
import Derived.Test.YtmgfbmkfomebcaaGreatDoorDkM2
import Derived.Test.YtmgfbmkfomebcaaGreatDoorDkM5
import Derived.Lib.Atoi
import Derived.Lib.ItoaNum
import Derived.Lib.SlTrimSet
import Derived.Test.YtmgfbmkfomebcaaGreatDoorDkM8
import Derived.Laws.StructEq
import Derived.OrdersHeld
import Derived.Tactics
set_option linter.unusedVariables false
set_option linter.unusedSimpArgs false
set_option maxRecDepth 100000
set_option maxHeartbeats 4000000
namespace Go.Proofs.YtmgfbmkfomebcaaGreatDoor
open Go.RowKit
theorem ZE{n D k wr0 r:Nat}{All:List It}{st:St}(kind:Int)(hk12:kind=1\/kind=2)(key:Nat)(m:Int)(text:ByteArray)(hkey:key<3)(ht:text.size<=9223372036854775807)(hk1:1<=k)(hkn:k<=n)(hn:n<=10)(h:Shl n D All st)(ao:Option Addr)(ca:Nat)(w:World)(hR:Reads w ao (ze All))(hnone:ao=none->All.length=0/\ca=0):
 Calls Tryz.prog 47 #[.agg (shC n k wr0 r D st.wr (.slice ao All.length ca)),deedV kind (key:Int) m text] w (yo n k wr0 r ao (wrF n k wr0 st kind key m text) w):=by
 rcases hk12 with h12|h12
 . exact zcl kind h12 key m text hkey ht hk1 hkn hn h ao ca w hR hnone
 . exact zbd kind h12 key m text hkey ht hk1 hkn hn h ao ca w hR hnone
abbrev dkDig:List UInt8:=[48,49,50,51,52,53,54,55,56,57]
def zS(n:Int):ByteArray:=⟨(Lib.itoa n).toArray⟩
def jT(w:ByteArray):Bool:=decide (w.size<1)||decide (7<w.size)|| !(Lib.trimS w.data.toList dkDig).isEmpty
def zft(w:ByteArray):Nat:=(Lib.decFrom 0 w.data.toList).getD 0
def y7(w:ByteArray):Option Nat:=if jT w then none else some (zft w)
theorem jP{p:UInt8->Bool}:∀{l:List UInt8},l.dropWhile p=[]->∀b∈l,p b=true
 |[],_,b,hb=>by cases hb
 |a::t,h,b,hb=>by
  cases ha:p a with
  |false=>rw[List.dropWhile_cons_of_neg (by simp[ha])]at h;cases h
  |true=>
   rw[List.dropWhile_cons_of_pos (by simp[ha])]at h;rcases List.mem_cons.1 hb with rfl|hb
   . exact ha
   . exact jP h b hb
theorem ZO{p:UInt8->Bool}:∀{l:List UInt8} {a:UInt8} {t:List UInt8},l.dropWhile p=a::t->p a=false
 |[],a,t,h=>by cases h
 |b::l,a,t,h=>by
  cases hb:p b with
  |false=>rw[List.dropWhile_cons_of_neg (by simp[hb])]at h;cases h;exact hb
  |true=>rw[List.dropWhile_cons_of_pos (by simp[hb])]at h;exact ZO h
theorem zfl{l cs:List UInt8}(h:Lib.trimS l cs=[]):∀b∈l,cs.contains b=true:=by
 unfold Lib.trimS Lib.trimLeftS Lib.trimRightS at h;have h1:=jP h;cases hd:l.reverse.dropWhile (cs.contains ·)with
 |nil=>
  have h2:=jP hd;intro b hb;exact h2 b (List.mem_reverse.2 hb)
 |cons a t=>
  have h2:=ZO hd;have h3:=h1 a (by rw[hd];simp);rw[h3]at h2;cases h2
theorem zan{b:UInt8}(h:dkDig.contains b=true):48<=b.toNat/\b.toNat<=57:=by
 simp at h;rcases h with rfl|rfl|rfl|rfl|rfl|rfl|rfl|rfl|rfl|rfl<;>decide
theorem zec:∀(l:List UInt8) (acc:Nat),(∀b∈l,dkDig.contains b=true)->∃m,Lib.decFrom acc l=some m/\m<(acc+1)*10^l.length
 |[],acc,_=>⟨acc,rfl,by simp⟩
 |b::t,acc,h=>by
  have hb:=zan (h b (by simp));obtain⟨m,h1,h2⟩:=zec t (acc*10+(b.toNat-48)) fun c hc=>h c (by simp[hc])
  refine⟨m,?_,?_⟩
  . unfold Lib.decFrom Lib.digitVal;rw[if_pos hb];exact h1
  . refine Nat.lt_of_lt_of_le h2 ?_;rw[List.length_cons,Nat.pow_succ,Nat.mul_comm (10^t.length) 10,<-Nat.mul_assoc];exact Nat.mul_le_mul_right _ (by omega)
theorem pk{s:ByteArray}(h:jT s=false):1<=s.size/\s.size<=7/\Lib.trimS s.data.toList dkDig=[]:=by
 unfold jT at h;rw[Bool.or_eq_false_iff,Bool.or_eq_false_iff,decide_eq_false_iff_not,decide_eq_false_iff_not,Bool.not_eq_false',List.isEmpty_iff]at h;exact⟨by omega,by omega,h.2⟩
theorem Qg{w:ByteArray}{n:Nat}(h:y7 w=some n):w.size<=7/\Lib.atoi w.data.toList=some (n:Int)/\n<=9999999:=by
 unfold y7 at h;cases hb:jT w with
 |true=>rw[hb]at h;simp at h
 |false=>
  rw[hb]at h;simp at h;obtain⟨h1,h2,h3⟩:=pk hb;have hall:=zfl h3;obtain⟨m,h4,h5⟩:=zec w.data.toList 0 hall;have hm:m=n:=by rw[<-h];unfold zft;rw[h4];rfl
  have hlen:w.data.toList.length=w.size:=rfl;refine⟨h2,?_,?_⟩
  . cases hl:w.data.toList with
    |nil=>rw[hl]at hlen;rw[List.length_nil]at hlen;omega
    |cons b t=>
     have hbd:=zan (hall b (by rw[hl];simp));have e0:Lib.atoi (b::t)=if b==45 then(Lib.decNat t).map (fun(m:Nat)=> -(m:Int)) else if b==43 then(Lib.decNat t).map (fun(m:Nat)=>(m:Int)) else(Lib.decNat (b::t)).map (fun(m:Nat)=>(m:Int)):=rfl
     rw[e0];have e1:(b==45)=false:=by simp;intro e;subst e;exact absurd hbd.1 (by decide)
     have e2:(b==43)=false:=by simp;intro e;subst e;exact absurd hbd.1 (by decide)
     rw[e1,e2,if_neg (by simp),if_neg (by simp)];unfold Lib.decNat
     rw[<-hl,h4,hm,hl];rfl
  . rw[hlen,Nat.zero_add,Nat.one_mul]at h5;have h6:10^w.size<=10^7:=Nat.pow_le_pow_right (by omega) h2;omega
theorem XM{w:ByteArray}(h:y7 w=none):jT w=true:=by
 unfold y7 at h;cases hb:jT w with
 |true=>rfl
 |false=>rw[hb]at h;simp at h
theorem V6{w:ByteArray}{n:Nat}(h:y7 w=some n):jT w=false:=by
 unfold y7 at h;cases hb:jT w with
 |true=>rw[hb]at h;simp at h
 |false=>rfl
abbrev dkSp:ByteArray:=⟨#[32]⟩
abbrev dkDot:ByteArray:=⟨#[46]⟩
abbrev dkOK:ByteArray:=⟨#[111,107]⟩
abbrev dkErrW:ByteArray:=⟨#[101,114,114,111,114,32]⟩
def zt(e:Int):ByteArray:=dkErrW++zS e
def vJ(l:List Int):ByteArray:=l.foldl (fun s n=>s++(zS n++dkSp)) ByteArray.empty
def yx(l:List Int):ByteArray:=vJ l++dkDot
theorem qX(l:List Int)(n:Int):vJ (l++[n])=vJ l++(zS n++dkSp):=by unfold vJ;rw[List.foldl_append];rfl
theorem zW(a b:ByteArray):(a++b).size=a.size+b.size:=by simp
theorem jQ:∀(k u:Nat),u<10^k->1<=k->(Lib.decDigits u).length<=k
 |0,u,h,h1=>by omega
 |k+1,u,h,h1=>by
  unfold Lib.decDigits;by_cases hu:u<10
  . rw[dif_pos hu];simp
  . rw[dif_neg hu];have hk:1<=k:=by
     rcases Nat.eq_zero_or_pos k with h0|h0
     . subst h0;simp at h;omega
     . exact h0
    have:=jQ k (u / 10) (by rw[Nat.pow_succ]at h;omega) hk;simp;omega
theorem ya(n:Int)(h0: -9223372036854775808<=n)(h1:n<=9223372036854775807):(zS n).size<=20:=by
 have e:(zS n).size=(Lib.itoa n).length:=by simp[zS,ByteArray.size]
 rw[e];unfold Lib.itoa
 split
 . have:=jQ 19 n.natAbs (by omega) (by omega);simp;omega
 . have:=jQ 19 n.toNat (by omega) (by omega)
   omega
def QR(l:List Int):Prop:=∀z∈l, -9223372036854775808<=z/\z<=9223372036854775807
inductive Cm where
 |put|torn|get|scrub|down|up|lose|rot|new|gcd|factor|root|code
def Cm.name:Cm->ByteArray
 |.put=>⟨#[112,117,116]⟩
 |.torn=>⟨#[116,111,114,110]⟩
 |.get=>⟨#[103,101,116]⟩
 |.scrub=>⟨#[115,99,114,117,98]⟩
 |.down=>⟨#[100,111,119,110]⟩
 |.up=>⟨#[117,112]⟩
 |.lose=>⟨#[108,111,115,101]⟩
 |.rot=>⟨#[114,111,116]⟩
 |.new=>⟨#[110,101,119]⟩
 |.gcd=>⟨#[103,99,100]⟩
 |.factor=>⟨#[102,97,99,116,111,114]⟩
 |.root=>⟨#[114,111,111,116]⟩
 |.code=>⟨#[99,111,100,101]⟩
def Cm.form:Cm->List UInt8
 |.put=>[110,119]
 |.torn=>[110,110,119]
 |.get|.scrub|.down|.up|.lose|.factor|.code=>[110]
 |.rot|.gcd|.root=>[110,110]
 |.new=>[110,110,110,110]
def Cm.all:List Cm:=[.put,.torn,.get,.scrub,.down,.up,.lose,.rot,.new,.gcd,.factor,.root,.code]
def pm(c:ByteArray):Option Cm:=Cm.all.find? fun m=>c.toList==m.name.toList
def yd:List UInt8->List ByteArray->List Nat->ByteArray->Option (List Nat×ByteArray)
 |c::f,w::ws,acc,t=>if c=119 then yd f ws acc w else match y7 w with|none=>none|some n=>yd f ws (acc++[n]) t
 |_,_,acc,t=>some (acc,t)
def zB(f:List UInt8)(ws:List ByteArray):Option (List Nat×ByteArray):=if ws.length≠f.length then none else yd f ws [] ByteArray.empty
structure DS where
 n:Nat
 k:Nat
 wr:Nat
 r:Nat
 st:St
def DS.ok(s:DS):Prop:=1<=s.k/\s.k<=s.n/\s.n<=10
def yq(kind:Nat)(t:Tl)(e:Nat):ByteArray:=
 if e≠0 then zt e else if kind<3 then zS t.at' else if kind=3 then zS t.at'++dkSp++t.tx else if kind=8 then zS t.mn else dkOK
noncomputable def yk(s:DS)(kind:Nat)(key m:Nat)(text:ByteArray):DS×ByteArray:=
 ({s with st:=(doF s.n s.k s.wr s.r s.st kind key m text).1},
  yq kind (doF s.n s.k s.wr s.r s.st kind key m text).2.1 (doF s.n s.k s.wr s.r s.st kind key m text).2.2)
noncomputable def zao(s:DS)(n k wr r:Nat):DS×ByteArray:=
 if qp n k wr r≠0 then(s,zt (qp n k wr r)) else(⟨n,k,wr,r,⟨0,fun _=>false,fun _ _=>[]⟩⟩,dkOK)
def pn(a:Int)(p:Nat)(R:Int):Prop:=(∃x:Nat,R=x/\YF a p x)\/(R= -1/\YG a p)
noncomputable def KZ(a:Int)(p:Nat):Int:=Classical.epsilon (pn a p)
theorem Zr(a:Int)(p:Nat):pn a p (KZ a p):=Classical.epsilon_spec (p:=pn a p) (by
 rcases zaJ a p with⟨x,h⟩|h
 . exact⟨x,.inl ⟨x,rfl,h⟩⟩
 . exact⟨-1,.inr ⟨rfl,h⟩⟩)
def vA(l:List (Nat×Nat)):List Int:=l.flatMap fun a=>[(a.1:Int),(a.2:Int)]
noncomputable def ki(n:Nat):ByteArray:=if n<1\/1000000<n then zt 1 else yx (vA (zaY n))
noncomputable def kj(a p:Nat):ByteArray:=if 1000000<p\/prB p=false then zt 1 else if KZ a p<0 then zt 4 else yx [KZ a p]
def po(n:Nat):ByteArray:=if 2047<n then zt 1 else yx [(jY n:Int)]
noncomputable def jU(a b:Nat):ByteArray:=yx [qc a b,jp a b,gI a b]
noncomputable def zed(s:DS)(x:List Nat)(t:ByteArray):Cm->DS×ByteArray
 |.put=>yk s 1 (x.getD 0 0) 0 t
 |.torn=>yk s 2 (x.getD 0 0) (x.getD 1 0) t
 |.get=>yk s 3 (x.getD 0 0) 0 ByteArray.empty
 |.scrub=>yk s 8 (x.getD 0 0) 0 ByteArray.empty
 |.down=>yk s 4 0 (x.getD 0 0) ByteArray.empty
 |.up=>yk s 5 0 (x.getD 0 0) ByteArray.empty
 |.lose=>yk s 6 0 (x.getD 0 0) ByteArray.empty
 |.rot=>yk s 7 (x.getD 1 0) (x.getD 0 0) ByteArray.empty
 |.new=>zao s (x.getD 0 0) (x.getD 1 0) (x.getD 2 0) (x.getD 3 0)
 |.gcd=>(s,jU (x.getD 0 0) (x.getD 1 0))
 |.factor=>(s,ki (x.getD 0 0))
 |.root=>(s,kj (x.getD 0 0) (x.getD 1 0))
 |.code=>(s,po (x.getD 0 0))
noncomputable def zK(s:DS)(ws:List ByteArray)(m:Cm):DS×ByteArray:=
 match zB m.form ws with
 |none=>(s,zt 12)
 |some (x,t)=>zed s x t m
noncomputable def QS(s:DS):List ByteArray->DS×ByteArray
 |[]=>(s,zt 12)
 |c::ws=>match pm c with
  |none=>(s,zt 12)
  |some m=>zK s ws m
theorem zcM{c:ByteArray}{m:Cm}(h:pm c=some m):c.toList=m.name.toList:=by
 unfold pm at h;have:=List.find?_some h;simpa using this
theorem Zs{c:ByteArray}(h:pm c=none)(m:Cm):(c.toList==m.name.toList)=false:=by
 unfold pm at h;have:=List.find?_eq_none.1 h m (by cases m<;>simp[Cm.all]);simpa using this
theorem zfm{s:DS}(h:s.ok)(x:List Nat)(t:ByteArray)(m:Cm):(zed s x t m).1.ok:=by
 cases m
 all_goals try exact h
 unfold zed zao;by_cases hq:qp (x.getD 0 0) (x.getD 1 0) (x.getD 2 0) (x.getD 3 0)≠0
 . simp only[if_pos hq];exact h
 . simp only[if_neg hq];have:=zfZ (Classical.not_not.1 hq);exact⟨by simp only;omega,by simp only;omega,by simp only;omega⟩
theorem zfn{s:DS}(h:s.ok)(ws:List ByteArray):(QS s ws).1.ok:=by
 cases ws with
 |nil=>exact h
 |cons c ws=>
  have e:QS s (c::ws)=(match pm c with|none=>(s,zt 12)|some m=>zK s ws m):=rfl;rw[e];cases pm c with
  |none=>exact h
  |some m=>
   show(zK s ws m).1.ok;unfold zK;cases zB m.form ws with
   |none=>exact h
   |some y=>exact zfm h _ _ _
end Go.Proofs.YtmgfbmkfomebcaaGreatDoor
namespace Go.Proofs.YtmgfbmkfomebcaaGreatDoor
theorem JH{a b:Int}(hb:0<b):(gI a b-qc a b*a)%b=0:=by
 obtain⟨_,_,h⟩:=zbp a b (by omega);have e:gI a b-qc a b*a=jp a b*b:=by omega
 rw[e];exact Int.mul_emod_left _ _
theorem zcf{a b l:Int}(hb:0<b)(hl:0<=l)(hlX:l<qc a b):(gI a b-l*a)%b≠0:=by
 intro h;obtain⟨g,a',b',h1,h2,h3,h4,h5,h6,h7,h8⟩:=Q1 a b (by omega);obtain⟨X,hX⟩:=YJ a' _ h7 h8;have hx:qc a b=X:=by unfold qc;rw[if_neg (by omega),<-h1,h5,h6,Qv hX]
 have hd:b∣gI a b-l*a:=Int.dvd_of_emod_eq_zero h;have e:gI a b-l*a=g*(1-l*a'):=by
  rw[<-h1,h3,Int.mul_sub,Int.mul_one,Int.mul_left_comm]
 rw[e,h4]at hd;have hd2:b'∣1-l*a':=Int.dvd_of_mul_dvd_mul_left (by omega) hd;have hb':0<b':=by
  rcases Int.lt_or_le 0 b' with h0|h0
  . exact h0
  . have:g*b'<=0:=Int.mul_nonpos_of_nonneg_of_nonpos (by omega) h0;omega
 have hm:max b' (-b')=b':=by omega
 rw[hm]at hX;have hI:IsInv a' b' l:=by
  refine⟨hl,?_,?_⟩
  . have:=hX.2.1;omega
  . have:=Int.dvd_neg.2 hd2
    rwa [Int.neg_sub]at this
 have:=hX.uniq hI;omega
theorem zbv(k:Nat)(text:ByteArray)(a key:Nat):∀(l:List Nat) (acc:St×Nat),(l.foldl (qw k text a key) acc).2<=acc.2+l.length
 |[],_=>Nat.le_refl _
 |i::l,acc=>by
  have:=zbv k text a key l (qw k text a key acc i);rw[List.foldl_cons,List.length_cons];have h2:(qw k text a key acc i).2<=acc.2+1:=by
   unfold qw
   split<;>simp
  omega
structure TlOk (n:Nat) (R:St×Tl×Nat):Prop where
 e:R.2.2<=11
 a:R.2.1.at'<=1000001
 m:R.2.1.mn<=n
 x:R.2.1.tx.size<=60
theorem TlOk.no(n:Nat)(st:St){e:Nat}(he:e<=11):TlOk n (st,Tl.no,e):=⟨he,by simp[Tl.no],by simp[Tl.no],by simp[Tl.no]⟩
theorem zbw(n wr:Nat)(st:St)(text:ByteArray):qM n wr st text<=11:=by
 unfold qM
 split
 . omega
 . split
   . omega
   . split<;>omega
theorem Xa{n k wr r:Nat}{st:St}(h:Okst st)(hk:1<=k)(key:Nat):TlOk n (yI n k wr r st key):=by
 unfold yI
 split
 . exact TlOk.no _ _ (by omega)
 . split
   . exact TlOk.no _ _ (by omega)
   . rename_i h2;have h3:(newest n k st key).2.2=true:=by simpa using h2
     obtain⟨i,x,_,hx,he⟩:=Vz h3;have hr:=h.rng i key x hx;have hw:=h.w6;refine⟨by simp,by show(newest n k st key).1<=_;omega,?_,j8 hk⟩;have:=zbv k (newest n k st key).2.1 (newest n k st key).1 key (ups n st) (st,0);have hu:=kz n st;show(List.foldl (qw k (newest n k st key).2.1 (newest n k st key).1 key) (st,0) (ups n st)).2<=n;omega
theorem zfF(st:St)(key m:Nat):(YY st key m).2<=11:=by
 unfold YY
 split<;>simp
theorem zfT(n:Nat)(st:St)(kind:Int)(key:Nat)(m:Int):(atF n st kind key m).2<=11:=by
 unfold atF
 split
 . simp
 . split
   . simp
   . split
     . simp
     . split
       . simp
       . split
         . exact zfF _ _ _
         . simp
theorem yJ{n k wr r:Nat}{st:St}(h:Okst st)(hk:1<=k)(kind key m:Int)(text:ByteArray):TlOk n (doF n k wr r st kind key m text):=by
 have hw:=h.w6;unfold doF
 split
 . exact TlOk.no _ _ (by omega)
 . split
   . unfold ZZ
     split
     . exact TlOk.no _ _ (zbw _ _ _ _)
     . exact⟨by simp,by show st.wr+1<=_;omega,by simp,by simp⟩
   . split
     . unfold vT
       split
       . exact TlOk.no _ _ (zbw _ _ _ _)
       . split
         . exact TlOk.no _ _ (by omega)
         . split
           . exact TlOk.no _ _ (by omega)
           . exact⟨by simp,by show st.wr+1<=_;omega,by simp,by simp⟩
     . split
       . have R:=Xa (n:=n) (wr:=wr) (r:=r) h hk key.toNat
         exact⟨R.e,R.a,by simp,R.x⟩
       . split
         . have R:=Xa (n:=n) (wr:=wr) (r:=r) h hk key.toNat
           exact⟨R.e,by simp,R.m,by simp⟩
         . exact⟨zfT _ _ _ _ _,by simp[Tl.no],by simp[Tl.no],by simp[Tl.no]⟩
end Go.Proofs.YtmgfbmkfomebcaaGreatDoor
namespace Go.Proofs.YtmgfbmkfomebcaaGreatDoor
open Go.RowKit
theorem za2{P:Program}{w:World}{mty kt et:TypeId}{d:TypeDesc}{r clock i:Nat}{es:Array MapEntry}{key v:Value}(hm:P.underlying mty=some (.map kt et))(hk:P.underlying kt=some d)(hd:MapKept.IsKey d key)(hb:w.heap[r]?=some (.map es clock))(hf:Instr.findNow d key es.toList 0=some (some (i,v))):
 (Instr.lookup mty (.map (some r)) key true).run P w=.ok (.tuple #[v,.bool true]) w:=by
 have hc:(Instr.checkKey es.isEmpty 10000 kt key).run P w=.ok () w:=MapKept.run_checkKey (k:=key) hk hd _ 9999;simp[Instr.lookup,run_underlying hm,MapKept.run_getObj_map hb,hc,MapKept.run_findKey hk hf,Result.andThen]
theorem JV{P:Program}{w:World}{mty kt et:TypeId}{d:TypeDesc}{r clock:Nat}{es:Array MapEntry}{key z:Value}(hm:P.underlying mty=some (.map kt et))(hk:P.underlying kt=some d)(hd:MapKept.IsKey d key)(hb:w.heap[r]?=some (.map es clock))(hf:Instr.findNow d key es.toList 0=some none)
 (hz:(zeroValue et).run P w=.ok z w):
 (Instr.lookup mty (.map (some r)) key true).run P w=.ok (.tuple #[z,.bool false]) w:=by
 have hc:(Instr.checkKey es.isEmpty 10000 kt key).run P w=.ok () w:=MapKept.run_checkKey (k:=key) hk hd _ 9999;simp[Instr.lookup,run_underlying hm,MapKept.run_getObj_map hb,hc,MapKept.run_findKey hk hf,hz,Result.andThen]
theorem zT(s:ByteArray):MapKept.IsKey .string (.string s):=trivial
theorem yz{c:ByteArray}(h:pm c=none)(m:Cm):(c==m.name)=false:=by
 rw[beq_toListBytes];exact Zs h m
def Cm.many:Cm->Int
 |.put=>2|.torn=>3|.get=>1|.scrub=>1|.down=>1|.up=>1|.lose=>1|.rot=>2|.new=>4|.gcd=>2|.factor=>1|.root=>2|.code=>1
def Cm.kind:Cm->Int
 |.put=>1|.torn=>2|.get=>3|.down=>4|.up=>5|.lose=>6|.rot=>7|.scrub=>8|_=>0
theorem yW{P:Program}{mty kt et:TypeId}(hm:P.underlying mty=some (.map kt et))(hk:P.underlying kt=some .string)(hz:∀w,(zeroValue et).run P w=.ok (.int .i64 0) w)(W:World):
 ∃w1 w2 w3 w4 w5 w6 w7 w8 w9 w10 w11 w12 w13:World,
  (Instr.mapUpdate mty (.map (some W.heap.size)) (.string ⟨#[112,117,116]⟩) (.int .i64 2)).run P (W.alloc (.map #[] 0))=.ok () w1/\
  (Instr.mapUpdate mty (.map (some W.heap.size)) (.string ⟨#[116,111,114,110]⟩) (.int .i64 3)).run P w1=.ok () w2/\
  (Instr.mapUpdate mty (.map (some W.heap.size)) (.string ⟨#[103,101,116]⟩) (.int .i64 1)).run P w2=.ok () w3/\
  (Instr.mapUpdate mty (.map (some W.heap.size)) (.string ⟨#[115,99,114,117,98]⟩) (.int .i64 1)).run P w3=.ok () w4/\
  (Instr.mapUpdate mty (.map (some W.heap.size)) (.string ⟨#[100,111,119,110]⟩) (.int .i64 1)).run P w4=.ok () w5/\
  (Instr.mapUpdate mty (.map (some W.heap.size)) (.string ⟨#[117,112]⟩) (.int .i64 1)).run P w5=.ok () w6/\
  (Instr.mapUpdate mty (.map (some W.heap.size)) (.string ⟨#[108,111,115,101]⟩) (.int .i64 1)).run P w6=.ok () w7/\
  (Instr.mapUpdate mty (.map (some W.heap.size)) (.string ⟨#[114,111,116]⟩) (.int .i64 2)).run P w7=.ok () w8/\
  (Instr.mapUpdate mty (.map (some W.heap.size)) (.string ⟨#[110,101,119]⟩) (.int .i64 4)).run P w8=.ok () w9/\
  (Instr.mapUpdate mty (.map (some W.heap.size)) (.string ⟨#[103,99,100]⟩) (.int .i64 2)).run P w9=.ok () w10/\
  (Instr.mapUpdate mty (.map (some W.heap.size)) (.string ⟨#[102,97,99,116,111,114]⟩) (.int .i64 1)).run P w10=.ok () w11/\
  (Instr.mapUpdate mty (.map (some W.heap.size)) (.string ⟨#[114,111,111,116]⟩) (.int .i64 2)).run P w11=.ok () w12/\
  (Instr.mapUpdate mty (.map (some W.heap.size)) (.string ⟨#[99,111,100,101]⟩) (.int .i64 1)).run P w12=.ok () w13/\
  ((∀m:Cm,(Instr.lookup mty (.map (some W.heap.size)) (.string m.name) true).run P w13=.ok (.tuple #[.int .i64 m.many,.bool true]) w13)/\
   (∀c:ByteArray,pm c=none->(Instr.lookup mty (.map (some W.heap.size)) (.string c) true).run P w13=.ok (.tuple #[.int .i64 0,.bool false]) w13))/\Below W.heap.size W w13:=by
 have h0:(W.alloc (.map #[] 0)).heap[W.heap.size]?=some (.map #[] 0):=heap_alloc_new W _;have b0:Below W.heap.size W (W.alloc (.map #[] 0)):=(Below.refl _ _).alloc (Nat.le_refl _) _;obtain⟨w1,r1,h1,b1⟩:=yC (val:=.int .i64 2) hm hk (zT ⟨#[112,117,116]⟩) h0 (by rfl) b0 (Nat.le_refl _);obtain⟨w2,r2,h2,b2⟩:=yC (val:=.int .i64 3) hm hk (zT ⟨#[116,111,114,110]⟩) h1 (by rfl) b1 (Nat.le_refl _);obtain⟨w3,r3,h3,b3⟩:=yC (val:=.int .i64 1) hm hk (zT ⟨#[103,101,116]⟩) h2 (by rfl) b2 (Nat.le_refl _);obtain⟨w4,r4,h4,b4⟩:=yC (val:=.int .i64 1) hm hk (zT ⟨#[115,99,114,117,98]⟩) h3 (by rfl) b3 (Nat.le_refl _);obtain⟨w5,r5,h5,b5⟩:=yC (val:=.int .i64 1) hm hk (zT ⟨#[100,111,119,110]⟩) h4 (by rfl) b4 (Nat.le_refl _);obtain⟨w6,r6,h6,b6⟩:=yC (val:=.int .i64 1) hm hk (zT ⟨#[117,112]⟩) h5 (by rfl) b5 (Nat.le_refl _);obtain⟨w7,r7,h7,b7⟩:=yC (val:=.int .i64 1) hm hk (zT ⟨#[108,111,115,101]⟩) h6 (by rfl) b6 (Nat.le_refl _);obtain⟨w8,r8,h8,b8⟩:=yC (val:=.int .i64 2) hm hk (zT ⟨#[114,111,116]⟩) h7 (by rfl) b7 (Nat.le_refl _);obtain⟨w9,r9,h9,b9⟩:=yC (val:=.int .i64 4) hm hk (zT ⟨#[110,101,119]⟩) h8 (by rfl) b8 (Nat.le_refl _);obtain⟨w10,r10,h10,b10⟩:=yC (val:=.int .i64 2) hm hk (zT ⟨#[103,99,100]⟩) h9 (by rfl) b9 (Nat.le_refl _);obtain⟨w11,r11,h11,b11⟩:=yC (val:=.int .i64 1) hm hk (zT ⟨#[102,97,99,116,111,114]⟩) h10 (by rfl) b10 (Nat.le_refl _);obtain⟨w12,r12,h12,b12⟩:=yC (val:=.int .i64 2) hm hk (zT ⟨#[114,111,111,116]⟩) h11 (by rfl) b11 (Nat.le_refl _);obtain⟨w13,r13,h13,b13⟩:=yC (val:=.int .i64 1) hm hk (zT ⟨#[99,111,100,101]⟩) h12 (by rfl) b12 (Nat.le_refl _);refine⟨w1,w2,w3,w4,w5,w6,w7,w8,w9,w10,w11,w12,w13,r1,r2,r3,r4,r5,r6,r7,r8,r9,r10,r11,r12,r13,?_,b13⟩;refine⟨fun m=>?_,fun c hc=>?_⟩
 . cases m<;>exact za2 hm hk (zT _) h13 (by rfl)
 . refine JV hm hk (zT _) h13 ?_ (hz _);have f0:=yz hc .put;have f1:=yz hc .torn;have f2:=yz hc .get;have f3:=yz hc .scrub;have f4:=yz hc .down;have f5:=yz hc .up;have f6:=yz hc .lose;have f7:=yz hc .rot;have f8:=yz hc .new;have f9:=yz hc .gcd;have f10:=yz hc .factor;have f11:=yz hc .root;have f12:=yz hc .code;unfold Cm.name at f0 f1 f2 f3 f4 f5 f6 f7 f8 f9 f10 f11 f12;simp[Instr.findNow,Instr.sameNow,f0,f1,f2,f3,f4,f5,f6,f7,f8,f9,f10,f11,f12]
theorem kb{P:Program}{mty kt et:TypeId}(hm:P.underlying mty=some (.map kt et))(hk:P.underlying kt=some .string)(hz:∀w,(zeroValue et).run P w=.ok (.int .i64 0) w)(W:World):
 ∃w1 w2 w3 w4 w5 w6 w7 w8:World,
  (Instr.mapUpdate mty (.map (some W.heap.size)) (.string ⟨#[112,117,116]⟩) (.int .i64 1)).run P (W.alloc (.map #[] 0))=.ok () w1/\
  (Instr.mapUpdate mty (.map (some W.heap.size)) (.string ⟨#[116,111,114,110]⟩) (.int .i64 2)).run P w1=.ok () w2/\
  (Instr.mapUpdate mty (.map (some W.heap.size)) (.string ⟨#[103,101,116]⟩) (.int .i64 3)).run P w2=.ok () w3/\
  (Instr.mapUpdate mty (.map (some W.heap.size)) (.string ⟨#[100,111,119,110]⟩) (.int .i64 4)).run P w3=.ok () w4/\
  (Instr.mapUpdate mty (.map (some W.heap.size)) (.string ⟨#[117,112]⟩) (.int .i64 5)).run P w4=.ok () w5/\
  (Instr.mapUpdate mty (.map (some W.heap.size)) (.string ⟨#[108,111,115,101]⟩) (.int .i64 6)).run P w5=.ok () w6/\
  (Instr.mapUpdate mty (.map (some W.heap.size)) (.string ⟨#[114,111,116]⟩) (.int .i64 7)).run P w6=.ok () w7/\
  (Instr.mapUpdate mty (.map (some W.heap.size)) (.string ⟨#[115,99,114,117,98]⟩) (.int .i64 8)).run P w7=.ok () w8/\
  (∀m:Cm,0<m.kind->(Instr.lookup mty (.map (some W.heap.size)) (.string m.name) false).run P w8=.ok (.int .i64 m.kind) w8)/\Below W.heap.size W w8:=by
 have h0:(W.alloc (.map #[] 0)).heap[W.heap.size]?=some (.map #[] 0):=heap_alloc_new W _;have b0:Below W.heap.size W (W.alloc (.map #[] 0)):=(Below.refl _ _).alloc (Nat.le_refl _) _;obtain⟨w1,r1,h1,b1⟩:=yC (val:=.int .i64 1) hm hk (zT ⟨#[112,117,116]⟩) h0 (by rfl) b0 (Nat.le_refl _);obtain⟨w2,r2,h2,b2⟩:=yC (val:=.int .i64 2) hm hk (zT ⟨#[116,111,114,110]⟩) h1 (by rfl) b1 (Nat.le_refl _);obtain⟨w3,r3,h3,b3⟩:=yC (val:=.int .i64 3) hm hk (zT ⟨#[103,101,116]⟩) h2 (by rfl) b2 (Nat.le_refl _);obtain⟨w4,r4,h4,b4⟩:=yC (val:=.int .i64 4) hm hk (zT ⟨#[100,111,119,110]⟩) h3 (by rfl) b3 (Nat.le_refl _);obtain⟨w5,r5,h5,b5⟩:=yC (val:=.int .i64 5) hm hk (zT ⟨#[117,112]⟩) h4 (by rfl) b4 (Nat.le_refl _);obtain⟨w6,r6,h6,b6⟩:=yC (val:=.int .i64 6) hm hk (zT ⟨#[108,111,115,101]⟩) h5 (by rfl) b5 (Nat.le_refl _);obtain⟨w7,r7,h7,b7⟩:=yC (val:=.int .i64 7) hm hk (zT ⟨#[114,111,116]⟩) h6 (by rfl) b6 (Nat.le_refl _);obtain⟨w8,r8,h8,b8⟩:=yC (val:=.int .i64 8) hm hk (zT ⟨#[115,99,114,117,98]⟩) h7 (by rfl) b7 (Nat.le_refl _);refine⟨w1,w2,w3,w4,w5,w6,w7,w8,r1,r2,r3,r4,r5,r6,r7,r8,?_,b8⟩;intro m hm0;cases m
 all_goals first
  |exact kA hm hk (zT _) h8 (by rfl)
  |exact absurd hm0 (by decide)
theorem jt{P:Program}{mty kt et:TypeId}(hm:P.underlying mty=some (.map kt et))(hk:P.underlying kt=some .string)(hz:∀w,(zeroValue et).run P w=.ok (.int .i64 0) w)(W:World):
 ∃w1 w2 w3:World,
  (Instr.mapUpdate mty (.map (some W.heap.size)) (.string ⟨#[100,111,119,110]⟩) (.int .i64 4)).run P (W.alloc (.map #[] 0))=.ok () w1/\
  (Instr.mapUpdate mty (.map (some W.heap.size)) (.string ⟨#[117,112]⟩) (.int .i64 5)).run P w1=.ok () w2/\
  (Instr.mapUpdate mty (.map (some W.heap.size)) (.string ⟨#[108,111,115,101]⟩) (.int .i64 6)).run P w2=.ok () w3/\
  ((Instr.lookup mty (.map (some W.heap.size)) (.string Cm.down.name) false).run P w3=.ok (.int .i64 4) w3/\(Instr.lookup mty (.map (some W.heap.size)) (.string Cm.up.name) false).run P w3=.ok (.int .i64 5) w3/\(Instr.lookup mty (.map (some W.heap.size)) (.string Cm.lose.name) false).run P w3=.ok (.int .i64 6) w3)/\Below W.heap.size W w3:=by
 have h0:(W.alloc (.map #[] 0)).heap[W.heap.size]?=some (.map #[] 0):=heap_alloc_new W _;have b0:Below W.heap.size W (W.alloc (.map #[] 0)):=(Below.refl _ _).alloc (Nat.le_refl _) _;obtain⟨w1,r1,h1,b1⟩:=yC (val:=.int .i64 4) hm hk (zT ⟨#[100,111,119,110]⟩) h0 (by rfl) b0 (Nat.le_refl _);obtain⟨w2,r2,h2,b2⟩:=yC (val:=.int .i64 5) hm hk (zT ⟨#[117,112]⟩) h1 (by rfl) b1 (Nat.le_refl _);obtain⟨w3,r3,h3,b3⟩:=yC (val:=.int .i64 6) hm hk (zT ⟨#[108,111,115,101]⟩) h2 (by rfl) b2 (Nat.le_refl _);refine⟨w1,w2,w3,r1,r2,r3,?_,b3⟩;exact⟨kA hm hk (zT _) h3 (by rfl),kA hm hk (zT _) h3 (by rfl),kA hm hk (zT _) h3 (by rfl)⟩
end Go.Proofs.YtmgfbmkfomebcaaGreatDoor
namespace Go.Proofs.YtmgfbmkfomebcaaGreatDoor
section
variable {P:Program} {ops:Array Oper} {Q:Exit->Act->World->Prop} {md:Region.Mode} {S:World->Prop} {n:Nat}
def qW(P:Program)(md:Region.Mode)(ops:Array Oper)(Q:Exit->Act->World->Prop)(S:World->Prop)(n:Nat):Nat->Array Bool->Act->World->Prop
 |0,listed,a,w=>Region.ready md ops listed=[]/\Q .normal a w
 |f+1,listed,a,w=>(Region.ready md ops listed=[]->Q .normal a w)/\
  ∀i∈Region.ready md ops listed,wpOp P ops Q i (fun a' w'=>(i≠n->S w')/\qW P md ops Q S n f (listed.setIfInBounds i true) a' w') a w
theorem XG:∀(f:Nat) (listed:Array Bool) (a:Act) (w:World),qW P md ops Q S n f listed a w->wpAny P md ops Q f listed a w
 |0,_,_,_,h=>h
 |f+1,_,_,_,h=>⟨h.1,fun i hi=>wpOp_mono (fun a' w' h'=>XG f _ a' w' h'.2) (h.2 i hi)⟩
def KX(md:Region.Mode)(ops:Array Oper)(n i:Nat):Bool:=match ops[n]? with|some o=>o.after.any (fun e=>Region.binds md e&&e.on==i)|none=>true
theorem zcL{i:Nat}{listed:Array Bool}(hw:KX md ops n i=true)(hu:listed.getD i false=false):n∉Region.ready md ops listed:=by
 intro hn;obtain⟨_,o,ho,hall⟩:=mem_ready.1 hn;unfold KX at hw;rw[ho]at hw;obtain⟨e,he,hb⟩:=Array.any_eq_true'.1 hw;rw[Bool.and_eq_true,beq_iff_eq]at hb;have:=hall e he hb.1;rw[hb.2,hu]at this;cases this
theorem zbJ{listed:Array Bool}{i:Nat}(h:listed.getD i true=false):listed.getD i false=false:=by
 rcases Nat.lt_or_ge i listed.size with h'|h'
 . simp[h']at h ⊢;exact h
 . simp[Array.getElem?_eq_none h']at h
theorem KY{i:Nat}{oi:Oper}{v:Value}(hi:ops[i]?=some oi)(hsel:∀(j:Nat) (o:Oper) cs b,ops[j]?=some o->o.op≠ .select cs b)(hwt:KX md ops n i=true)
 (hQ:∀c a w,Q (.panic c) (a.put oi.dst v) w->Q (.panic c) a w):
 ∀(f:Nat) (listed:Array Bool) (a:Act) (w:World),
  (∀j oj,ops[j]?=some oj->j≠i->listed.getD j true=false->(∀e∈oj.after,Region.binds md e=true->e.on≠i)->oi.apart ops oj=true)->
  i∈Region.ready md ops listed->YieldsIf P ops S oi v a->S w->
  qW P md ops Q S n f (listed.setIfInBounds i true) (a.put oi.dst v) w->qW P md ops Q S n (f+1) listed a w:=by
 intro f;induction f with
 |zero=>
  intro listed a w _ hr hy hS H;refine⟨fun h=>(by rw[h]at hr;cases hr),fun j hj=>?_⟩;by_cases hji:j=i
  . subst hji;exact hy.wpOp hi hS ⟨fun _=>hS,H⟩
  . have h1:=ready_mono hj hji;rw[H.1]at h1;cases h1
 |succ f ih=>
  intro listed a w hfree hr hy hS H;refine⟨fun h=>(by rw[h]at hr;cases hr),fun j hj=>?_⟩;by_cases hji:j=i
  . subst hji;exact hy.wpOp hi hS ⟨fun _=>hS,H⟩
  . have hun:=(mem_ready.1 hr).1;have hjn:j≠n:=fun e=>zcL hwt (zbJ hun) (e ▸ hj)
    have h1:=H.2 j (ready_mono hj hji);obtain⟨hjun,oj,hoj,hall⟩:=mem_ready.1 hj;have hnot:∀e∈oj.after,Region.binds md e=true->e.on≠i:=fun e he hb heq=>by
     have h2:=hall e he hb;rw[heq,zbJ hun]at h2;cases h2
    have h2:=wpOp_putIf hoj (hfree j oj hoj hji hjun hnot) (fun cs b=>hsel i oi cs b hi) (fun cs b=>hsel j oj cs b hoj) hQ hy h1;have hfree':∀k ok,ops[k]?=some ok->k≠i->(listed.setIfInBounds j true).getD k true=false->
     (∀e∈ok.after,Region.binds md e=true->e.on≠i)->oi.apart ops ok=true:=fun k ok hk hki hun2 hno=>by
     refine hfree k ok hk hki ?_ hno;by_cases hjk:j=k
     . subst hjk;exact hjun
     . rw[getD_set_ne true hjk]at hun2;exact hun2
    refine wpOp_mono (fun a' w' h3=>⟨fun _=>h3.2.1 hjn,ih (listed.setIfInBounds j true) a' w' hfree' (ready_mono hr (Ne.symm hji)) h3.1 (h3.2.1 hjn) ?_⟩) h2;rw[Array.setIfInBounds_comm _ _ hji];exact h3.2.2
theorem zo{i:Nat}{oi:Oper}{v:Value}{f:Nat}{listed:Array Bool}{a:Act}{w:World}(hi:ops[i]?=some oi)
 (hs:Region.noSelect ops=true)(hf:Region.free md ops listed i=true)(hr:(Region.ready md ops listed).contains i=true)(hwt:KX md ops n i=true)
 (hQ:∀c a w,Q (.panic c) (a.put oi.dst v) w->Q (.panic c) a w)(hy:YieldsIf P ops S oi v a)(hS:S w)
 (h:qW P md ops Q S n f (listed.setIfInBounds i true) (a.put oi.dst v) w):qW P md ops Q S n (f+1) listed a w:=
 KY hi (Region.noSelect_spec hs) hwt hQ f listed a w (Region.free_spec hi hf) (by simpa using hr) hy hS h
theorem XH{rs:List Nat}{f:Nat}{listed:Array Bool}{a:Act}{w:World}(hr:Region.ready md ops listed=rs)(hne:rs≠[])
 (h:∀i∈rs,wpOp P ops Q i (fun a' w'=>(i≠n->S w')/\qW P md ops Q S n f (listed.setIfInBounds i true) a' w') a w):qW P md ops Q S n (f+1) listed a w:=
 ⟨fun h0=>absurd (hr ▸ h0) hne,hr ▸ h⟩
theorem yh{i:Nat}{f:Nat}{listed:Array Bool}{a:Act}{w:World}(hr:Region.ready md ops listed=[i])
 (h:wpOp P ops Q i (fun a' w'=>(i≠n->S w')/\qW P md ops Q S n f (listed.setIfInBounds i true) a' w') a w):qW P md ops Q S n (f+1) listed a w:=
 XH hr (by simp) (fun q hq=>by rw[List.mem_singleton.1 hq];exact h)
theorem XI{i j:Nat}{f:Nat}{listed:Array Bool}{a:Act}{w:World}(hr:Region.ready md ops listed=[i,j])
 (h1:wpOp P ops Q i (fun a' w'=>(i≠n->S w')/\qW P md ops Q S n f (listed.setIfInBounds i true) a' w') a w)
 (h2:wpOp P ops Q j (fun a' w'=>(j≠n->S w')/\qW P md ops Q S n f (listed.setIfInBounds j true) a' w') a w):qW P md ops Q S n (f+1) listed a w:=
 XH hr (by simp) (fun q hq=>by
  rcases List.mem_cons.1 hq with e|e
  . rw[e];exact h1
  . rw[List.mem_singleton.1 e];exact h2)
theorem jg{listed:Array Bool}{a:Act}{w:World}(hr:Region.ready md ops listed=[])(h:Q .normal a w):∀f,qW P md ops Q S n f listed a w
 |0=>⟨hr,h⟩
 |_+1=>⟨fun _=>h,by rw[hr];simp⟩
theorem jh{id:Nat}{a:Act}{w:World}(S:World->Prop)(n:Nat)(hm:P.follows .mixedOrders=true)
 (h:qW P .any ops Q S n ops.size (Array.replicate ops.size false) a w.drew):(Code.region id ops true).wp P Q a w:=
 wp_region_any hm (XG _ _ _ _ h)
end
end Go.Proofs.YtmgfbmkfomebcaaGreatDoor
