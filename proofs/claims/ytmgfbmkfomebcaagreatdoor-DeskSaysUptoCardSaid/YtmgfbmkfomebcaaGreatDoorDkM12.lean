/- What Join hands back. -/
import Derived.Test.YtmgfbmkfomebcaaGreatDoorDkM11
set_option linter.unusedVariables false
set_option linter.unusedSimpArgs false
namespace Go.Proofs.YtmgfbmkfomebcaaGreatDoor
open Go.RowKit
def usB(ss:List ByteArray)(k:Int)(i:Nat):Bool:=decide (yl (sAt ss i) k=0)
def qd(ss:List ByteArray)(i:Nat):Nat:=zJ (sAt ss i) 0
def qz(ss:List ByteArray)(k:Int)(n:Nat):List Nat:=pl (usB ss k) n
def lenT(ss:List ByteArray)(k:Int)(n:Nat):Nat:=qd ss ((qz ss k n).headD 0)
def ZH(ss:List ByteArray)(k:Int)(n:Nat):Prop:=∀a∈qz ss k n,qd ss a=lenT ss k n
def Kx(ss:List ByteArray)(k:Int)(n:Nat):Nat:=yZ (lenT ss k n) k.toNat
def bJ(ss:List ByteArray)(k:Int)(i j:Nat):GF:=if usB ss k j then gf (zJ (sAt ss j) (1+i)) else 0
def qr(ss:List ByteArray)(k:Int)(n i j:Nat):Nat:=(qn (bJ ss k i) (qz ss k n) k.toNat (gf j)).val
def zaP(ss:List ByteArray)(k:Int)(n i:Nat):Prop:=Fit (usB ss k) (bJ ss k i) (qz ss k n) k.toNat n
def kO(ss:List ByteArray)(k:Int)(n p:Nat):Nat:=qr ss k n (p%Kx ss k n) (p / Kx ss k n)
theorem Ky(ss:List ByteArray)(k:Int)(n i j:Nat):qr ss k n i j<256:=(qn (bJ ss k i) (qz ss k n) k.toNat (gf j)).lt
def JoinIs(ss:List ByteArray)(n:Nat)(k:Int)(S:ByteArray)(E:Nat):Prop:=
 (qg k n=false/\S=ByteArray.empty/\E=1)\/(qg k n=true/\¬ZH ss k n/\S=ByteArray.empty/\E=3)\/
 (qg k n=true/\ZH ss k n/\(qz ss k n).length<k.toNat/\S=ByteArray.empty/\E=9)\/
 (qg k n=true/\ZH ss k n/\k.toNat<=(qz ss k n).length/\(¬∀i,i<Kx ss k n->zaP ss k n i)/\S=ByteArray.empty/\E=8)\/
 (qg k n=true/\ZH ss k n/\k.toNat<=(qz ss k n).length/\(∀i,i<Kx ss k n->zaP ss k n i)/\S=zE (lenT ss k n) (kO ss k n)/\E=0)
theorem JoinIs.uniq{ss:List ByteArray}{n:Nat}{k:Int}{S S':ByteArray}{E E':Nat}(h:JoinIs ss n k S E)(h':JoinIs ss n k S' E'):S=S'/\E=E':=by
 rcases h with⟨a,rfl,rfl⟩|⟨a,b,rfl,rfl⟩|⟨a,b,c,rfl,rfl⟩|⟨a,b,c,d,rfl,rfl⟩|⟨a,b,c,d,rfl,rfl⟩<;>
 rcases h' with⟨a',rfl,rfl⟩|⟨a',b',rfl,rfl⟩|⟨a',b',c',rfl,rfl⟩|⟨a',b',c',d',rfl,rfl⟩|⟨a',b',c',d',rfl,rfl⟩<;>
 first
  |exact⟨rfl,rfl⟩
  |(exfalso;first|(rw[a]at a';cases a';done)|exact b b'|exact b' b|exact d d'|exact d' d|omega)
def jq(ss:List ByteArray)(n:Nat)(k:Int)(w:World)(e:Ending)(w':World):Prop:=
 ∃S E,JoinIs ss n k S E/\e=.returned (.tuple #[.string S,.int .i64 (E:Nat)])/\Below w.heap.size w w'
def LenI(ss:List ByteArray)(k:Int)(i:Nat)(L:Int):Prop:=(pl (usB ss k) i=[]/\L= -1)\/∃t:Nat,t<256/\L=t/\pl (usB ss k) i≠[]/\∀a∈pl (usB ss k) i,qd ss a=t
theorem LenI.no{ss:List ByteArray}{k:Int}{i:Nat}{L:Int}(h:LenI ss k i L)(hu:usB ss k i=false):LenI ss k (i+1) L:=by
 unfold LenI at h ⊢;rw[kY,hu,if_neg (by simp)];exact h
theorem LenI.yes{ss:List ByteArray}{k:Int}{i:Nat}{L:Int}(h:LenI ss k i L)(hu:usB ss k i=true)(hL:L= -1\/L=(qd ss i:Int)):LenI ss k (i+1) (qd ss i:Int):=by
 unfold LenI;rw[kY,hu,if_pos rfl];right;refine⟨qd ss i,yH _ _,rfl,by simp,fun a ha=>?_⟩;rcases List.mem_append.1 ha with ha|ha
 . rcases h with⟨h1,h2⟩|⟨t,h1,h2,h3,h4⟩
   . rw[h1]at ha;cases ha
   . rcases hL with hL|hL
     . omega
     . rw[h4 a ha];omega
 . simp at ha;rw[ha]
theorem VI{l:List Nat}(h:l≠[]):l.headD 0∈l:=by cases l with
 |nil=>exact absurd rfl h
 |cons a t=>simp
theorem LenI.same{ss:List ByteArray}{k:Int}{n:Nat}{L:Int}(h:LenI ss k n L):ZH ss k n:=by
 intro a ha;rcases h with⟨h1,_⟩|⟨t,_,_,h3,h4⟩
 . unfold qz at ha;rw[h1]at ha;cases ha
 . unfold lenT;unfold qz at ha ⊢;rw[h4 a ha,h4 _ (VI h3)]
theorem LenI.lenT{ss:List ByteArray}{k:Int}{n t:Nat}(h:LenI ss k n (t:Int)):lenT ss k n=t:=by
 rcases h with⟨_,h2⟩|⟨t',_,h2,h3,h4⟩
 . omega
 . have e:t=t':=by omega
   unfold Go.Proofs.YtmgfbmkfomebcaaGreatDoor.lenT qz;rw[h4 _ (VI h3),e]
theorem LenI.differ{ss:List ByteArray}{k:Int}{n i t:Nat}(h:LenI ss k i (t:Int))(hi:i<n)(hu:usB ss k i=true)(hne:qd ss i≠t):¬ZH ss k n:=by
 intro hs;rcases h with⟨_,h2⟩|⟨t',_,h2,h3,h4⟩
 . omega
 . obtain⟨a,ha⟩:=List.exists_mem_of_ne_nil _ h3;have h5:=hs i (qv.2 ⟨hi,hu⟩);have h6:=hs a (qv.2 ⟨Nat.lt_trans (qv.1 ha).1 hi,(qv.1 ha).2⟩);have h7:=h4 a ha;omega
theorem pD{ss:List ByteArray}{k:Int}{i:Nat}(hu:usB ss k i=true):(sAt ss i).size=5+yZ (qd ss i) k.toNat/\1<=k:=by
 unfold usB at hu;have h:=of_decide_eq_true hu;unfold yl at h
 split at h
 . cases h
 . split at h
   . cases h
   . split at h
     . cases h
     . split at h
       . cases h
       . rename_i h1 _ _ h4;unfold qd;exact⟨by omega,by omega⟩
theorem zbu{ss:List ByteArray}{k:Int}{i:Nat}(hu:usB ss k i=true):qd ss i<=60:=by
 unfold usB at hu;have h:=of_decide_eq_true hu;unfold yl at h
 split at h
 . cases h
 . split at h
   . cases h
   . split at h
     . cases h
     . split at h
       . cases h
       . rename_i h1 _ _ h4;unfold qd;omega
theorem Za{w:World}{base e g n:Nat}{xs:List Value}{f:Nat->Value}(h:w.ownsRow base e 2 (.slice (some ⟨g,0,none⟩) n n) n xs)(hn:n<=1000)(hx:xs=zX (n*2) f):Own w base e g (n*2) (n*2) f:=by
 subst hx;rcases h.2 with⟨h0,_⟩|⟨g',cap',cur,hv,hb,hg,h1,h2,h3,h4⟩
 . cases h0
 injection hv with e1 e2 e3
 injection e1 with e1
 injection e1 with e1
 subst e1 e3;exact⟨by rw[zC,Nat.mul_one],.inr ⟨g,n*2,cur,rfl,hb,hg,Nat.le_refl _,by unfold maxLen;omega,by rw[Nat.mul_one];exact h3,by rw[Nat.mul_one];exact h4⟩⟩
def yV(H:Nat->Bool)(B:Nat->GF)(j t:Nat):Value:=
 if t%2=0 then .bool (decide (t / 2<j)&&H (t / 2)) else if t / 2<j/\H (t / 2)=true then gfV B (t / 2) else .int .u8 0
theorem pY(H:Nat->Bool)(B:Nat->GF)(n:Nat):(madeCells (Value.agg #[.bool false,.int .u8 0]).cells (n*2)).toList=zX (n*2) (yV H B 0):=by
 have hz:(Value.agg #[Value.bool false,.int .u8 0]).cells=#[.bool false,.int .u8 0]:=by rfl
 rw[hz];apply List.ext_getElem?;intro j;by_cases hj:j<n*2
 . rw[zG _ hj];unfold yV;have hm:j%2=0\/j%2=1:=by omega
   rcases hm with hm|hm
   . simp[madeCells,hj,hm]
   . simp[madeCells,hj,hm]
 . rw[List.getElem?_eq_none (by simp[madeCells];omega),List.getElem?_eq_none (by rw[zC];omega)]
theorem Y9{H:Nat->Bool}{B:Nat->GF}{j:Nat}(h:H j=false)(t:Nat):yV H B j t=yV H B (j+1) t:=by
 unfold yV;by_cases h1:t / 2=j
 . subst h1;simp[h]
 . have h2:(t / 2<j)↔(t / 2<j+1):=by omega
   simp[h2]
theorem Zb{H:Nat->Bool}{B:Nat->GF}{j:Nat}(h:H j=true)(t:Nat):(if t=j*2+1 then .int .u8 ((B j).val:Int) else if t=j*2 then .bool true else yV H B j t)=yV H B (j+1) t:=by
 unfold yV;by_cases h1:t=j*2+1
 . rw[if_pos h1];have e1:t%2=1:=by omega
   have e2:t / 2=j:=by omega
   rw[if_neg (by omega),if_pos ⟨by omega,by rw[e2];exact h⟩,e2];rfl
 . rw[if_neg h1];by_cases h2:t=j*2
   . rw[if_pos h2];have e1:t%2=0:=by omega
     have e2:t / 2=j:=by omega
     rw[if_pos e1,e2,h];simp
   . rw[if_neg h2];have h3:(t / 2<j)↔(t / 2<j+1):=by omega
     simp[h3]
theorem Zc{w:World}{ao:Option Addr}{H:Nat->Bool}{B:Nat->GF}{n:Nat}(h:Reads w ao (zX (n*2) (yV H B n)))(hB:∀j,j<n->H j=false->B j=0):Reads w ao (vV H B n):=by
 have e:zX (n*2) (yV H B n)=vV H B n:=by
  apply List.ext_getElem?;intro t;by_cases ht:t<n*2
  . rw[zG _ ht];have hh:t / 2<n:=by omega
    obtain⟨c1,c2⟩:=pA H B hh;unfold yV;have hm:t%2=0\/t%2=1:=by omega
    rcases hm with hm|hm
    . rw[if_pos hm];rw[show t / 2*2=t by omega]at c1;rw[c1];simp[hh]
    . rw[if_neg (by omega)];rw[show t / 2*2+1=t by omega]at c2;rw[c2];cases hH:H (t / 2)with
      |true=>rw[if_pos ⟨hh,rfl⟩];rfl
      |false=>rw[if_neg (by simp),hB _ hh hH];rfl
  . rw[List.getElem?_eq_none (by rw[zC];omega)];rw[List.getElem?_eq_none];unfold vV;rw[XQ];simp;omega
 rw[<-e];exact h
theorem zfo{ss:List ByteArray}{k:Int}{i j:Nat}(h:usB ss k j=false):bJ ss k i j=0:=by unfold bJ;rw[if_neg (by rw[h];simp)]
theorem zdB{ss:List ByteArray}{k:Int}{i j:Nat}(h:usB ss k j=true):((bJ ss k i j).val:Int)=(zJ (sAt ss j) (1+i):Nat):=by unfold bJ;rw[if_pos h,ko (yH _ _)]
theorem zdC(xs:Nat->GF)(k:Nat)(x:GF):lag xs (fun _=>0) k x=0:=by
 have h1:∀i m,kV xs (0:GF) i x m=0:=by
  intro i m;induction m with
  |zero=>rfl
  |succ m ih=>unfold kV;split;exact ih;rw[ih,zbY.zero_mul]
 have h2:∀i,Je xs (fun _=>(0:GF)) k x i=0:=by
  intro i;induction i with
  |zero=>rfl
  |succ i ih=>unfold Je;rw[ih,h1,zbY.add_zero]
 exact h2 k
theorem JG(H:Nat->Bool)(l:List Nat)(k n:Nat):Fit H (fun _=>0) l k n:=by
 intro a _ _;unfold qn byP;exact zdC _ _ _
abbrev Kp:=Nat×ByteArray
structure St where
 wr:Nat
 dn:Nat->Bool
 kp:Nat->Nat->List Kp
def St.set(st:St)(i key:Nat)(l:List Kp):St:={st with kp:=fun i' key'=>if i'=i/\key'=key then l else st.kp i' key'}
theorem St.set_at(st:St)(i key:Nat)(l:List Kp):(st.set i key l).kp i key=l:=if_pos ⟨rfl,rfl⟩
theorem St.set_far(st:St){i key i' key':Nat}(l:List Kp)(h:i'≠i\/key'≠key):(st.set i key l).kp i' key'=st.kp i' key':=if_neg (by omega)
def pcs(s:ByteArray)(k j:Nat):ByteArray:=qx s.size (yZ s.size k) (pcF s k j)
theorem kM(s:ByteArray)(k j:Nat)(hs:s.size<=60)(hk:1<=k):5<=(pcs s k j).size/\(pcs s k j).size<=65:=by
 unfold pcs;rw[ph];have:=vG (T:=s.size) hk;omega
def vu(l:List Kp)(a:Nat):ByteArray:=match l.find? (fun x=>x.1==a)with|some x=>x.2|none=>ByteArray.empty
theorem pw{l:List Kp}{a m:Nat}(h:∀x∈l,x.2.size<=m):(vu l a).size<=m:=by
 unfold vu;cases hf:l.find? (fun x=>x.1==a)with
 |none=>exact Nat.zero_le _
 |some x=>exact h x (List.mem_of_find?_eq_some hf)
def kv(n:Nat)(st:St)(key a:Nat):List ByteArray:=qD n fun i=>if st.dn i then ByteArray.empty else vu (st.kp i key) a
theorem pz(n:Nat)(st:St)(key a:Nat):(kv n st key a).length=n:=pW _ _
theorem zbq(ss:List ByteArray)(n:Nat)(k:Int):∃p:ByteArray×Nat,JoinIs ss n k p.1 p.2:=by
 cases hr:qg k n with
 |false=>exact⟨(_,_),.inl ⟨hr,rfl,rfl⟩⟩
 |true=>
  by_cases h1:ZH ss k n
  . by_cases h2:(qz ss k n).length<k.toNat
    . exact⟨(_,_),.inr (.inr (.inl ⟨hr,h1,h2,rfl,rfl⟩))⟩
    . by_cases h3:∀i,i<Kx ss k n->zaP ss k n i
      . exact⟨(_,_),.inr (.inr (.inr (.inr ⟨hr,h1,by omega,h3,rfl,rfl⟩)))⟩
      . exact⟨(_,_),.inr (.inr (.inr (.inl ⟨hr,h1,by omega,h3,rfl,rfl⟩)))⟩
  . exact⟨(_,_),.inr (.inl ⟨hr,h1,rfl,rfl⟩)⟩
noncomputable def Qw(ss:List ByteArray)(n:Nat)(k:Int):ByteArray×Nat:=Classical.choose (zbq ss n k)
theorem Jt(ss:List ByteArray)(n:Nat)(k:Int):JoinIs ss n k (Qw ss n k).1 (Qw ss n k).2:=Classical.choose_spec (zbq ss n k)
theorem Ju{ss:List ByteArray}{n:Nat}{k:Int}{S:ByteArray}{E:Nat}(h:JoinIs ss n k S E):(Qw ss n k).1=S/\(Qw ss n k).2=E:=(Jt ss n k).uniq h
theorem zaK{ss:List ByteArray}{n:Nat}{k:Nat}(hl:1<=k)(h:(Qw ss n k).2=0):(Qw ss n k).1.size<=60:=by
 rcases Jt ss n k with⟨_,_,e⟩|⟨_,_,_,e⟩|⟨_,_,_,_,e⟩|⟨_,_,_,_,_,e⟩|⟨_,_,h3,_,e,_⟩
 . rw[e]at h;cases h
 . rw[e]at h;cases h
 . rw[e]at h;cases h
 . rw[e]at h;cases h
 . rw[e,jE];unfold lenT;have hne:qz ss k n≠[]:=by
    intro h0;rw[h0]at h3;simp at h3;omega
   obtain⟨a,ha⟩:∃a,a∈qz ss k n/\(qz ss k n).headD 0=a:=by
    cases hg:qz ss k n with
    |nil=>exact absurd hg hne
    |cons a t=>exact⟨a,by simp,rfl⟩
   rw[ha.2];exact zbu (qv.1 ha.1).2
def ups(n:Nat)(st:St):List Nat:=pl (fun i=> !st.dn i) n
theorem vP{n:Nat}{st:St}{i:Nat}:i∈ups n st↔i<n/\st.dn i=false:=by
 unfold ups;rw[qv];simp
theorem kz(n:Nat)(st:St):(ups n st).length<=n:=Yp _ _
def pX(n:Nat)(st:St)(key:Nat):List Nat:=(ups n st).flatMap fun i=>(st.kp i key).map (·.1)
abbrev Best:=Nat×ByteArray×Bool
noncomputable def qP(n k:Nat)(st:St)(key:Nat)(acc:Best)(a:Nat):Best:=
 if acc.2.2=true/\a<=acc.1 then acc else if(Qw (kv n st key a) n k).2=0 then(a,(Qw (kv n st key a) n k).1,true) else acc
noncomputable def newest(n k:Nat)(st:St)(key:Nat):Best:=(pX n st key).foldl (qP n k st key) (0,ByteArray.empty,false)
theorem zb9{n k:Nat}{st:St}{key:Nat}{acc:Best}{a:Nat}(hk:1<=k)(h:acc.2.1.size<=60):(qP n k st key acc a).2.1.size<=60:=by
 unfold qP
 split
 . exact h
 . split
   . rename_i h2;exact zaK hk h2
   . exact h
theorem Vx{n k:Nat}{st:St}{key:Nat}(hk:1<=k):∀(l:List Nat) (acc:Best),acc.2.1.size<=60->(l.foldl (qP n k st key) acc).2.1.size<=60
 |[],_,h=>h
 |_::t,_,h=>Vx hk t _ (zb9 hk h)
theorem j8{n k:Nat}{st:St}{key:Nat}(hk:1<=k):(newest n k st key).2.1.size<=60:=Vx hk _ _ (Nat.zero_le _)
def YX(a:Nat)(p:ByteArray)(l:List Kp):List Kp:=(a,p)::l.filter (fun x=>decide (a<x.1))
def Qx(l:List Kp)(a:Nat)(p:ByteArray):Bool:=l.any fun x=>x.1==a&&x.2.toList==p.toList
def qw(k:Nat)(text:ByteArray)(a key:Nat)(acc:St×Nat)(i:Nat):St×Nat:=
 (acc.1.set i key (YX a (pcs text k i) (acc.1.kp i key)),acc.2+if Qx (acc.1.kp i key) a (pcs text k i) then 0 else 1)
structure Tl where
 tx:ByteArray
 at':Nat
 mn:Nat
def Tl.no:Tl:=⟨ByteArray.empty,0,0⟩
noncomputable def yI(n k wr r:Nat)(st:St)(key:Nat):St×Tl×Nat:=
 if(ups n st).length<r\/(ups n st).length<wr then(st,Tl.no,9)
 else if(newest n k st key).2.2=false then(st,Tl.no,4)
 else(((ups n st).foldl (qw k (newest n k st key).2.1 (newest n k st key).1 key) (st,0)).1,
  ⟨(newest n k st key).2.1,(newest n k st key).1,((ups n st).foldl (qw k (newest n k st key).2.1 (newest n k st key).1 key) (st,0)).2⟩,0)
def qM(n wr:Nat)(st:St)(text:ByteArray):Nat:=
 if 60<text.size then 2 else if(ups n st).length<wr then 9 else if st.wr=1000000 then 11 else 0
theorem Vy{n wr:Nat}{st:St}{text:ByteArray}(h:qM n wr st text=0):text.size<=60/\wr<=(ups n st).length/\st.wr≠1000000:=by
 unfold qM at h;by_cases h1:60<text.size
 . rw[if_pos h1]at h;cases h
 . rw[if_neg h1]at h;by_cases h2:(ups n st).length<wr
   . rw[if_pos h2]at h;cases h
   . rw[if_neg h2]at h;by_cases h3:st.wr=1000000
     . rw[if_pos h3]at h;cases h
     . exact⟨by omega,by omega,h3⟩
def putS(a k:Nat)(text:ByteArray)(key:Nat)(st:St)(i:Nat):St:=st.set i key [(a,pcs text k i)]
def qo(a k:Nat)(text:ByteArray)(key:Nat)(st:St)(i:Nat):St:=st.set i key (st.kp i key++[(a,pcs text k i)])
def St.up1(st:St):St:={st with wr:=st.wr+1}
def ZZ(n k wr:Nat)(st:St)(key:Nat)(text:ByteArray):St×Tl×Nat:=
 if qM n wr st text≠0 then(st,Tl.no,qM n wr st text)
 else((ups n st).foldl (putS (st.wr+1) k text key) st.up1,⟨ByteArray.empty,st.wr+1,0⟩,0)
def vT(n k wr:Nat)(st:St)(key:Nat)(m:Int)(text:ByteArray):St×Tl×Nat:=
 if qM n wr st text≠0 then(st,Tl.no,qM n wr st text)
 else if m<0\/((ups n st).length:Int)<m then(st,Tl.no,1)
 else if((ups n st).take m.toNat).any (fun i=>decide (8<=(st.kp i key).length))=true then(st,Tl.no,11)
 else(((ups n st).take m.toNat).foldl (qo (st.wr+1) k text key) st.up1,⟨ByteArray.empty,st.wr+1,0⟩,0)
def vU(s:ByteArray):ByteArray:=zE s.size fun j=>if j=0 then zJ s 0 ^^^ 1 else zJ s j
theorem zaL(s:ByteArray):(vU s).size=s.size:=jE _ _
def j9(l:List Kp):List Kp:=l.dropLast++[((l.getLastD (0,ByteArray.empty)).1,vU (l.getLastD (0,ByteArray.empty)).2)]
def YY(st:St)(key:Nat)(m:Nat):St×Nat:=if(st.kp m key).length=0 then(st,4) else(st.set m key (j9 (st.kp m key)),0)
def St.down(st:St)(m:Nat)(b:Bool):St:={st with dn:=fun i=>if i=m then b else st.dn i}
def St.lose(st:St)(m:Nat):St:={st with kp:=fun i key=>if i=m then[] else st.kp i key}
def atF(n:Nat)(st:St)(kind:Int)(key:Nat)(m:Int):St×Nat:=
 if m<0\/(n:Int)<=m then(st,1) else if kind=4 then(st.down m.toNat true,0) else if kind=5 then(st.down m.toNat false,0)
 else if kind=6 then(st.lose m.toNat,0) else if kind=7 then YY st key m.toNat else(st,0)
def jl(kind:Int):Bool:=decide (kind<=3)||decide (kind=8)||decide (kind=7)
noncomputable def doF(n k wr r:Nat)(st:St)(kind key m:Int)(text:ByteArray):St×Tl×Nat:=
 if kind<1\/8<kind\/(jl kind=true/\(key<0\/2<key)) then(st,Tl.no,1)
 else if kind=1 then ZZ n k wr st key.toNat text
 else if kind=2 then vT n k wr st key.toNat m text
 else if kind=3 then((yI n k wr r st key.toNat).1,⟨(yI n k wr r st key.toNat).2.1.tx,(yI n k wr r st key.toNat).2.1.at',0⟩,(yI n k wr r st key.toNat).2.2)
 else if kind=8 then((yI n k wr r st key.toNat).1,⟨ByteArray.empty,0,(yI n k wr r st key.toNat).2.1.mn⟩,(yI n k wr r st key.toNat).2.2)
 else((atF n st kind key.toNat m).1,Tl.no,(atF n st kind key.toNat m).2)
structure Okst (st:St):Prop where
 w6:st.wr<=1000000
 srt:∀i key,(st.kp i key).Pairwise (fun x y=>x.1<y.1)
 rng:∀i key,∀x∈st.kp i key,1<=x.1/\x.1<=st.wr/\5<=x.2.size/\x.2.size<=65
theorem zbr:∀(l:List Kp) (a b:Nat),l.Pairwise (fun x y=>x.1<y.1)->(∀x∈l,a<=x.1/\x.1<b)->l.length+a<=max a b
 |[],a,b,_,_=>by simp;omega
 |x::t,a,b,hp,h=>by
  have hx:=h x (by simp);have h2:=List.pairwise_cons.1 hp;have:=zbr t (x.1+1) b h2.2 (fun y hy=>⟨h2.1 y hy,(h y (by simp[hy])).2⟩);simp;omega
theorem Okst.len{st:St}(h:Okst st)(i key:Nat):(st.kp i key).length<=1000000:=by
 have:=zbr (st.kp i key) 1 (st.wr+1) (h.srt i key) (fun x hx=>⟨(h.rng i key x hx).1,by have:=(h.rng i key x hx).2.1;omega⟩);have:=h.w6;omega
theorem Okst.init:Okst ⟨0,fun _=>false,fun _ _=>[]⟩:=⟨by simp,fun _ _=>List.Pairwise.nil,fun _ _ x hx=>by simp at hx⟩
theorem Okst.set{st:St}(h:Okst st)(i key:Nat){l:List Kp}(h1:l.Pairwise (fun x y=>x.1<y.1))(h2:∀x∈l,1<=x.1/\x.1<=st.wr/\5<=x.2.size/\x.2.size<=65):Okst (st.set i key l):=by
 refine⟨h.w6,fun i' key'=>?_,fun i' key' x hx=>?_⟩
 . by_cases hk:i'=i/\key'=key
   . rw[hk.1,hk.2,St.set_at];exact h1
   . rw[St.set_far _ _ (by omega)];exact h.srt i' key'
 . by_cases hk:i'=i/\key'=key
   . rw[hk.1,hk.2,St.set_at]at hx;exact h2 x hx
   . rw[St.set_far _ _ (by omega)]at hx;exact h.rng i' key' x hx
theorem Okst.fix{st:St}(h:Okst st)(i key a:Nat){p:ByteArray}(ha:1<=a)(ha2:a<=st.wr)(hp:5<=p.size/\p.size<=65):Okst (st.set i key (YX a p (st.kp i key))):=by
 refine h.set i key ?_ ?_
 . unfold YX;rw[List.pairwise_cons];refine⟨fun x hx=>?_,(h.srt i key).filter _⟩;have:=(List.mem_filter.1 hx).2;simpa using this
 . intro x hx;unfold YX at hx;rcases List.mem_cons.1 hx with rfl|hx
   . exact⟨ha,ha2,hp⟩
   . exact h.rng i key x (List.mem_filter.1 hx).1
theorem Okst.put{st:St}(h:Okst st)(i key a:Nat){p:ByteArray}(ha:1<=a)(ha2:a<=st.wr)(hp:5<=p.size/\p.size<=65):Okst (st.set i key [(a,p)]):=by
 refine h.set i key (by simp) ?_;intro x hx;rw[List.mem_singleton.1 hx];exact⟨ha,ha2,hp⟩
theorem Okst.torn{st:St}(h:Okst st)(i key a:Nat){p:ByteArray}(hlt:∀x∈st.kp i key,x.1<a)(ha:1<=a)(ha2:a<=st.wr)(hp:5<=p.size/\p.size<=65):Okst (st.set i key (st.kp i key++[(a,p)])):=by
 refine h.set i key ?_ ?_
 . rw[List.pairwise_append];refine⟨h.srt i key,by simp,fun x hx y hy=>?_⟩;rw[List.mem_singleton.1 hy];exact hlt x hx
 . intro x hx;rcases List.mem_append.1 hx with hx|hx
   . exact h.rng i key x hx
   . rw[List.mem_singleton.1 hx];exact⟨ha,ha2,hp⟩
theorem Okst.up1{st:St}(h:Okst st)(hw:st.wr≠1000000):Okst st.up1:=
 ⟨by have:=h.w6;show st.wr+1<=_;omega,h.srt,fun i key x hx=>by have:=h.rng i key x hx;exact⟨this.1,by show _<=st.wr+1;omega,this.2.2⟩⟩
theorem Okst.down{st:St}(h:Okst st)(m:Nat)(b:Bool):Okst (st.down m b):=⟨h.w6,h.srt,h.rng⟩
theorem Okst.lose{st:St}(h:Okst st)(m:Nat):Okst (st.lose m):=by
 refine⟨h.w6,fun i key=>?_,fun i key x hx=>?_⟩
 . show(if i=m then[] else st.kp i key).Pairwise _
   split
   . exact List.Pairwise.nil
   . exact h.srt i key
 . have hx':x∈(if i=m then[] else st.kp i key):=hx
   split at hx'
   . simp at hx'
   . exact h.rng i key x hx'
theorem Q4{l:List Kp}(h:l.length≠0):l.dropLast++[l.getLastD (0,ByteArray.empty)]=l:=by
 have hne:l≠[]:=by intro e;rw[e]at h;exact h rfl
 rw[List.getLastD_eq_getLast?,List.getLast?_eq_some_getLast hne];exact List.dropLast_concat_getLast hne
theorem zdu{l:List Kp}(h:l.length≠0):(j9 l).length=l.length:=by
 unfold j9;rw[List.length_append,List.length_dropLast];simp;omega
theorem Okst.rot{st:St}(h:Okst st)(m key:Nat)(hl:(st.kp m key).length≠0):Okst (st.set m key (j9 (st.kp m key))):=by
 have hs:=Q4 hl;have h1:=h.srt m key;have h2:=h.rng m key;rw[<-hs]at h1 h2;rw[List.pairwise_append]at h1;refine h.set m key ?_ ?_
 . unfold j9;rw[List.pairwise_append];refine⟨h1.1,by simp,fun x hx y hy=>?_⟩;rw[List.mem_singleton.1 hy];have h3:=h1.2.2 x hx ((st.kp m key).getLastD (0,ByteArray.empty)) (List.mem_singleton.2 rfl);exact h3
 . intro x hx;unfold j9 at hx;rcases List.mem_append.1 hx with hx|hx
   . exact h2 x (by simp[hx])
   . rw[List.mem_singleton.1 hx];have:=h2 _ (List.mem_append_right _ (by simp:(st.kp m key).getLastD (0,ByteArray.empty)∈[(st.kp m key).getLastD (0,ByteArray.empty)]));exact⟨this.1,this.2.1,by rw[zaL];exact this.2.2⟩
theorem zbs{n k:Nat}{st:St}{key:Nat}:∀(l:List Nat) (acc:Best),(l.foldl (qP n k st key) acc).2.2=true->acc.2.2=true/\(l.foldl (qP n k st key) acc).1=acc.1\/(l.foldl (qP n k st key) acc).1∈l
 |[],_,h=>.inl ⟨h,rfl⟩
 |a::t,acc,h=>by
  rw[List.foldl_cons]at h ⊢;rcases zbs t (qP n k st key acc a) h with⟨h1,h2⟩|h1
  . rw[h2];unfold qP at h1 ⊢;by_cases g1:acc.2.2=true/\a<=acc.1
    . rw[if_pos g1]at h1 ⊢;exact .inl ⟨h1,rfl⟩
    . rw[if_neg g1]at h1 ⊢;by_cases g2:(Qw (kv n st key a) n k).2=0
      . rw[if_pos g2];exact .inr (by simp)
      . rw[if_neg g2]at h1 ⊢;exact .inl ⟨h1,rfl⟩
  . exact .inr (by simp[h1])
theorem Vz{n k:Nat}{st:St}{key:Nat}(h:(newest n k st key).2.2=true):∃i x,i∈ups n st/\x∈st.kp i key/\x.1=(newest n k st key).1:=by
 rcases zbs (n:=n) (k:=k) (st:=st) (key:=key) (pX n st key) (0,ByteArray.empty,false) h with⟨h1,_⟩|h1
 . cases h1
 . obtain⟨i,hi,hx⟩:=List.mem_flatMap.1 h1;obtain⟨x,hx,he⟩:=List.mem_map.1 hx;exact⟨i,x,hi,hx,he⟩
theorem qF{l:List Nat}{j a:Nat}(h:l[j]?=some a):l.take (j+1)=l.take j++[a]:=by
 obtain⟨hj,he⟩:=List.getElem?_eq_some_iff.1 h;rw[List.take_succ_eq_append_getElem hj,he]
theorem jb{α:Type}(f:α->Nat->α)(x:α){l:List Nat}{j a:Nat}(h:l[j]?=some a):(l.take (j+1)).foldl f x=f ((l.take j).foldl f x) a:=by
 rw[qF h,List.foldl_append];rfl
end Go.Proofs.YtmgfbmkfomebcaaGreatDoor
