/- Tables of bytes: slices of slices that are read. Laws over whatever program. -/
import Derived.Test.YtmgfbmkfomebcaaGreatDoorDkM7
import Derived.Test.YtmgfbmkfomebcaaGreatDoorDkM8
import Derived.Test.YtmgfbmkfomebcaaGreatDoorDkM1
import Derived.Deep.Matrix
import Derived.Test.YtmgfbmkfomebcaaGreatDoorRows
import Derived.Laws.IdiomStrings
import Derived.Laws.Strings
import Derived.Deep.RegionHeld
import Derived.Deep.QuietTactic
import Derived.BigQuiet
import Derived.Test.YtmgfbmkfomebcaaGreatDoorDkM2
import Derived.Test.YtmgfbmkfomebcaaGreatDoorDkM0
import Derived.Test.YtmgfbmkfomebcaaGreatDoorDkM3
import Derived.Laws.Concat
set_option linter.unusedVariables false
set_option linter.unusedSimpArgs false
set_option maxRecDepth 20000
set_option maxHeartbeats 2000000
namespace Go.Proofs.YtmgfbmkfomebcaaGreatDoor
open Go.RowKit
structure Hd where
 A:Option Addr
 C:Nat
 Z:List Nat
def Hd.v(h:Hd):Value:=.slice h.A h.Z.length h.C
def u8s(l:List Nat):List Value:=l.map fun x:Nat=>Value.int .u8 (x:Int)
structure RowOk (w:World) (h:Hd):Prop where
 none:h.A=none->h.Z.length=0/\h.C=0
 cap:h.Z.length<=h.C
 max:h.C<=9223372036854775807
 reads:Reads w h.A (u8s h.Z)
 byte:∀z∈h.Z,z<256
theorem RowOk.below{w w':World}{h:Hd}(k:RowOk w h)(hb:Below w.heap.size w w'):RowOk w' h:=⟨k.none,k.cap,k.max,k.reads.below hb,k.byte⟩
structure TabIn (w:World) (ao:Option Addr) (n:Nat) (T:List Hd):Prop where
 len:T.length=n
 max:n<=9223372036854775807
 reads:Reads w ao (T.map Hd.v)
 rows:∀h∈T,RowOk w h
theorem TabIn.below{w w':World}{ao:Option Addr}{n:Nat}{T:List Hd}(k:TabIn w ao n T)(hb:Below w.heap.size w w'):TabIn w' ao n T:=
 ⟨k.len,k.max,k.reads.below hb,fun h hh=>(k.rows h hh).below hb⟩
theorem TabIn.get{w:World}{ao:Option Addr}{n:Nat}{T:List Hd}(k:TabIn w ao n T){i:Nat}(hi:i<n):∃h b o,T[i]?=some h/\ao=some ⟨b,o,none⟩/\w.cell? ⟨b,o+i,none⟩=some (.slice h.A h.Z.length h.C)/\RowOk w h:=by
 have hl:i<T.length:=by rw[k.len];exact hi
 obtain⟨b,o,h1,h2⟩:=k.reads i (T[i]).v (by simp[List.getElem?_eq_getElem hl]);exact⟨T[i],b,o,List.getElem?_eq_getElem hl,h1,h2,k.rows _ (List.getElem_mem hl)⟩
def Jy{α:Type}(p:α->Bool)(zs:List α):Int:=match zs.findIdx? p with|some i=>(i:Int)|none=> -1
theorem zcb{α:Type}{p:α->Bool}{zs:List α}(h:∀x∈zs,p x=false):Jy p zs= -1:=by
 unfold Jy;rw[List.findIdx?_eq_none_iff.2 (by simpa using h)]
theorem zcc{α:Type}{p:α->Bool}{zs:List α}{k:Nat}{x:α}(hk:zs[k]?=some x)(hx:p x=true)(h:∀j y,j<k->zs[j]?=some y->p y=false):Jy p zs=k:=by
 have:zs.findIdx? p=some k:=by
  rw[List.findIdx?_eq_some_iff_getElem];obtain⟨hl,he⟩:=List.getElem?_eq_some_iff.1 hk;refine⟨hl,by rw[he];exact hx,fun j hj=>?_⟩;have:=h j _ hj (List.getElem?_eq_getElem (by omega));simp[this]
 unfold Jy;rw[this]
theorem Jz{α:Type}(p:α->Bool)(zs:List α):decide (0<=Jy p zs)=zs.any p:=by
 unfold Jy;cases h:zs.findIdx? p with
 |none=>
  rw[List.findIdx?_eq_none_iff]at h;have:zs.any p=false:=by simp only[List.any_eq_false];intro x hx;simp[h x hx]
  rw[this];rfl
 |some i=>
  rw[List.findIdx?_eq_some_iff_getElem]at h;obtain⟨hl,h1,_⟩:=h;have:zs.any p=true:=List.any_eq_true.2 ⟨_,List.getElem_mem hl,h1⟩;rw[this];simp
theorem zcd(x:Int)(zs:List Int)(len:Nat)(ao:Option Addr)(cap:Nat)(w:World)(hlen:zs.length=len)(hl:len<=9223372036854775807)(hR:Hid (Reads w ao (zs.map (Value.int .i64)))):
 Calls Tryz.prog 143 #[.slice ao len cap,.int .i64 x] w fun e w'=>e=.returned (.int .i64 (Jy (fun y=>x==y) zs))/\∃n,w'=w.drewN n:=by
 have HL:=zH hlen;clear hlen;go_enter Tryz.func143,Tryz.ntmps143
 go_wp2_with fail
 go_loopw [8] (fun vi wr=>∃k:Nat,vi=.int .i64 k/\k<=len/\Hid (∀j y,j<k->zs[j]?=some y->(x==y)=false)/\∃n,wr=w.drewN n) (fun vi _=>len-(intOf vi).toNat)
 case atStart=>exact⟨0,rfl,by omega,by intro j y hj;omega,0,rfl⟩
 case round=>
  obtain⟨k,rfl,hk,hno,n,rfl⟩:=hrel;by_cases hkl:k<len
  . obtain⟨y,hy⟩:∃y,zs[k]?=some y:=⟨zs[k]'(by rw[HL.out];exact hkl),List.getElem?_eq_getElem _⟩
    obtain⟨b,o,rfl,hc⟩:=hR.out k (.int .i64 y) (by simp[hy]);have HY:=zH hy;clear hy;have i0:(0:Int)<=(k:Int):=by omega
    have i1:(k:Int)<(len:Int):=by omega
    cases hp:(x==y)with
    |true=>
     go_wp2_with fail
     go_ret
     exact⟨vH (zcc HY.out (by simpa using hp) hno.out).symm,by first|exact⟨_,rfl⟩|exact dr2 _ _ _⟩
    |false=>
     have HP:=zH hp;go_wp2_with fail
     go_roundw
     case rel=>exact⟨k+1,by go_num,by omega,by
      intro j z hj hz;by_cases he:j=k
      . subst he;rw[HY.out]at hz;cases hz;exact HP.out
      . exact hno.out j z (by omega) hz,by first|exact⟨_,rfl⟩|exact dr2 _ _ _⟩
     case measure=>simp[intOf];omega
  . obtain rfl:k=len:=by omega
    go_wp2
    go_ret
    refine⟨vH (zcb fun z hz=>?_).symm,_,rfl⟩;obtain⟨j,hj⟩:=List.getElem?_of_mem hz;have:=(List.getElem?_eq_some_iff.1 hj).1;exact hno.out j z (by have:=HL.out;omega) hj
theorem Kv(x:Int)(zs:List Int)(len:Nat)(ao:Option Addr)(cap:Nat)(w:World)(hlen:zs.length=len)(hl:len<=9223372036854775807)(hR:Hid (Reads w ao (zs.map (Value.int .i64)))):
 Calls Tryz.prog 115 #[.slice ao len cap,.int .i64 x] w fun e w'=>e=.returned (.bool (decide (x∈zs)))/\∃n,w'=w.drewN n:=by
 have C:=zH (zcd x zs len ao cap w hlen hl hR);have hd:Hid (decide (0<=Jy (fun y=>x==y) zs)=decide (x∈zs)):=by
  show _=_;rw[Jz];by_cases h:x∈zs
  . rw[decide_eq_true h,List.any_eq_true];exact⟨x,h,by simp⟩
  . rw[decide_eq_false h,List.any_eq_false];intro y hy he;have:x=y:=by simpa using he
    exact h (this ▸ hy)
 clear hR hlen;go_enter Tryz.func115,Tryz.ntmps115
 go_wp2_with (go_at_call 143;refine C.out.mono ?_;rintro e w' ⟨rfl,n,rfl⟩)
 go_ret
 exact⟨qi hd.out,_,rfl⟩
def sAt(ss:List ByteArray)(i:Nat):ByteArray:=ss.getD i ByteArray.empty
def zJ(s:ByteArray)(k:Nat):Nat:=(s.data.toList.getD k 0).toNat
theorem yH(s:ByteArray)(k:Nat):zJ s k<256:=UInt8.toNat_lt _
theorem yT(s:ByteArray)(k:Nat)(h:k<s.size):s[k].toNat=zJ s k:=by
 unfold zJ;rw[List.getD_eq_getElem?_getD,List.getElem?_eq_getElem (by simpa using h)];simp;rfl
theorem j4{ss:List ByteArray}{k:Nat}(h:k<ss.length):(ss.map Value.string)[k]?=some (.string (sAt ss k)):=by
 rw[List.getElem?_map,List.getElem?_eq_getElem h];unfold sAt;rw[List.getD_eq_getElem?_getD,List.getElem?_eq_getElem h];rfl
theorem ps{ss:List ByteArray}{k:Nat}(h:k<ss.length):sAt ss k∈ss:=by
 unfold sAt;rw[List.getD_eq_getElem?_getD,List.getElem?_eq_getElem h];exact List.getElem_mem _
theorem vO:yb Tryz.prog 5 (.int .u8 0) 1 1:=yf (by kernel_rfl) rfl (by omega)
theorem zer{F G:Nat->Nat}{k y:Nat}(h:F k=y)(j:Nat):(if j=k then Value.int .u8 (y:Int) else .int .u8 ((if j<k then F j else G j:Nat):Int))=.int .u8 ((if j<k+1 then F j else G j:Nat):Int):=by
 by_cases h1:j=k
 . subst h1;rw[if_pos rfl,if_pos (by omega),h]
 . rw[if_neg h1];by_cases h2:j<k
   . rw[if_pos h2,if_pos (by omega)]
   . rw[if_neg h2,if_neg (by omega)]
def zE(m:Nat)(f:Nat->Nat):ByteArray:=⟨((List.range m).map fun k=>UInt8.ofNat (f k)).toArray⟩
theorem jE(m:Nat)(f:Nat->Nat):(zE m f).size=m:=by simp[zE,ByteArray.size]
theorem Zy{m:Nat}{f:Nat->Nat}{k:Nat}(hk:k<m)(hf:f k<256):zJ (zE m f) k=f k:=by
 unfold zJ zE;rw[List.getD_eq_getElem?_getD];simp[hk];omega
theorem pM{m:Nat}{f g:Nat->Nat}(h:∀k,k<m->f k=g k):zE m f=zE m g:=by
 unfold zE
 congr 2
 exact List.map_congr_left fun k hk=>by rw[h k (List.mem_range.1 hk)]
theorem Qt{s:ByteArray}{m:Nat}(h:s.size=m):zE m (zJ s)=s:=by
 obtain⟨d⟩:=s;unfold zE
 congr 1
 apply Array.toList_inj.1;apply List.ext_getElem?;intro k;have hd:d.size=m:=h;by_cases hk:k<m
 . have h2:k<d.size:=by omega
   simp[zJ,hk,h2]
 . have h2:¬k<d.size:=by omega
   simp[zJ,hk,h2]
theorem Jm{m:Nat}{f g:Nat->Nat}(hf:∀k,k<m->f k<256)(hg:∀k,k<m->g k<256)(h:zE m f=zE m g):∀k,k<m->f k=g k:=by
 intro k hk;rw[<-Zy hk (hf k hk),h,Zy hk (hg k hk)]
theorem pt(m:Nat)(f:Nat->Nat)(ao:Option Addr)(cap:Nat)(W:World)(hf:∀k,k<m->f k<256)(hn:ao=none->m=0)(hR:Reads W ao (zX m fun k=>.int .u8 (f k:Nat))):
 (convert 113 9 (.slice ao m cap)).run Tryz.prog W=.ok (.string (zE m f)) W:=by
 cases ao with
 |none=>
  obtain rfl:=hn rfl;rw[run_convert_bytes_string W 113 9 5 none 0 cap Tryz.underlying113 Tryz.underlying5 Tryz.underlying9];rfl
 |some a=>
  have h:=run_convert_bytes_back (P:=Tryz.prog) W 113 9 5 a cap ((List.range m).map fun k=>UInt8.ofNat (f k)) Tryz.underlying113 Tryz.underlying5 Tryz.underlying9 ?_
  . simp only[List.length_map,List.length_range]at h;exact h
  . intro j hj;simp only[List.length_map,List.length_range]at hj;obtain⟨b,o,ha,hc⟩:=hR j _ (zG _ hj);cases ha;rw[Addr.add_lit,hc];have:=hf j hj;simp;omega
def pI(m:Nat)(f:Nat->Nat):List Value:=zX m fun k=>.int .u8 (f k:Nat)
theorem Vt(m:Nat)(f:Nat->Nat):pI (m+1) f=pI m f++[.int .u8 (f m:Nat)]:=kF _ _
theorem Jn(m:Nat)(f:Nat->Nat):(pI m f).length=m:=zC _ _
def qD(n:Nat)(F:Nat->ByteArray):List ByteArray:=(List.range n).map F
theorem pW(n:Nat)(F:Nat->ByteArray):(qD n F).length=n:=by simp[qD]
theorem zaB(n:Nat)(F:Nat->ByteArray):(qD n F).map Value.string=zX n (fun j=>.string (F j)):=by
 unfold qD zX;rw[List.map_map];rfl
theorem zdj{a b:ByteArray}(h:a≠b):(a.toList==b.toList)=false:=by
 rw[beq_eq_false_iff_ne];intro e;rw[ByteArray.toList_eq,ByteArray.toList_eq]at e;apply h;obtain⟨x⟩:=a;obtain⟨y⟩:=b
 congr 1
 exact Array.toList_inj.1 e
theorem zdk{a b:ByteArray}(h:a=b):(a.toList==b.toList)=true:=by rw[h];simp
theorem zaC{m:Nat}{f:Nat->Nat}{s:ByteArray}(hs:s.size=m)(hf:∀k,k<m->f k<256):zE m f=s↔∀k,k<m->f k=zJ s k:=by
 constructor
 . intro h;rw[<-Qt hs]at h;exact Jm hf (fun k _=>yH _ _) h
 . intro h;rw[<-Qt hs];exact pM h
def zgq(b:Bool)(w:World)(e:Ending)(w':World):Prop:=e=.returned (.bool b)/\Below w.heap.size w w'
def RowC(w:World)(g m:Nat)(f:Nat->Value):Prop:=∀j,j<m->w.cell? ⟨g,j,none⟩=some (f j)/\w.frozen? ⟨g,j,none⟩=false
theorem RowC.store{w:World}{g m:Nat}{f:Nat->Value}(h:RowC w g m f){i:Nat}(hi:i<m)(u:Value):RowC (w.setCell ⟨g,i,none⟩ u) g m (fun j=>if j=i then u else f j):=by
 intro j hj;by_cases hji:j=i
 . subst hji;refine⟨?_,by rw[World.frozen?_setCell];exact(h j hj).2⟩;show _=some (if j=j then u else f j);rw[if_pos rfl];exact World.cell?_setCell_same' _ _ _ (by rw[(h j hj).1];rfl)
 . refine⟨?_,by rw[World.frozen?_setCell];exact(h j hj).2⟩;show _=some (if j=i then u else f j);rw[if_neg hji,World.cell?_setCell_other _ _ _ _ (by intro e;injection e with e1 e2;omega)];exact(h j hj).1
theorem RowC.drew{w:World}{g m:Nat}{f:Nat->Value}(h:RowC w g m f)(k:Nat):RowC (w.drewN k) g m f:=h
theorem RowC.reads{w:World}{g m:Nat}{f:Nat->Value}(h:RowC w g m f):Reads w (some ⟨g,0,none⟩) (zX m f):=by
 intro j u hu;have hj:j<m:=by have:=(List.getElem?_eq_some_iff.1 hu).1;rwa [zC]at this
 rw[zG f hj]at hu;cases hu;exact⟨g,0,rfl,by rw[Nat.zero_add];exact(h j hj).1⟩
theorem RowC.congr{w:World}{g m:Nat}{f f':Nat->Value}(h:RowC w g m f)(hf:∀j,j<m->f j=f' j):RowC w g m f':=fun j hj=>by rw[<-hf j hj];exact h j hj
theorem kL(w:World)(s:ByteArray)(cap:Nat):RowC (w.alloc (.cells (bytesRow s cap) 5 ((bytesRow s cap).size,(bytesRow s cap).size+1))) w.heap.size s.size (fun j=>.int .u8 (zJ s j:Nat)):=by
 intro j hj;have hsz:s.size<=(bytesRow s cap).size:=by
  unfold bytesRow;rw[Array.size_append,Array.size_map];exact Nat.le_add_right _ _
 refine⟨?_,?_⟩
 . rw[World.cell?_alloc_mark,bytesRow_at s cap j hj]
   congr 2
   have e:=yT s j hj;have e2:s.data[j].toNat=zJ s j:=e;rw[e2]
 . rw[World.frozen?_alloc_mark];have:¬(bytesRow s cap).size<=j:=by omega
   simp[this]
theorem zO(w:World)(g i:Nat)(u:Value):w.grownBy (w.setCell ⟨g,i,none⟩ u) (some g):=by
 have h:=zk (B:=g) (j:=i) (Below.refl w.heap.size w);refine⟨rfl,rfl,rfl,by simp,fun k hk hne=>zf u (fun e=>hne (by rw[e]))⟩
theorem StrsIn.below{w w':World}{ao:Option Addr}{n:Nat}{ss:List ByteArray}(h:StrsIn w ao n ss)(hb:Below w.heap.size w w'):StrsIn w' ao n ss:=⟨h.1,h.2.1,h.2.2.1,h.2.2.2.below hb⟩
def Yes(w:World)(e:Ending)(w':World):Prop:=e=.returned (.bool true)/\Below w.heap.size w w'
def bL(s:ByteArray)(k:Nat):List Nat:=(List.range k).map (zJ s)
theorem zbF(s:ByteArray)(k:Nat):bL s (k+1)=bL s k++[zJ s k]:=by simp[bL,List.range_succ]
theorem zfr(s:ByteArray)(k:Nat):∀c∈bL s k,c<256:=by
 intro c hc;obtain⟨i,_,rfl⟩:=List.mem_map.1 hc;exact yH _ _
theorem zfi(s:ByteArray)(k:Nat):Ve (bL s k)<4294967296:=(Xy (zfr s k)).s32
def Zp(s:ByteArray):Nat:=4294967295 ^^^ Ve (bL s s.size)
theorem Yo(s:ByteArray):Zp s<4294967296:=x32 (by omega) (zfi s _)
theorem zbG(x:Nat)(h:x<4294967296):bits .xor .u32 IntKind.u32.max (x:Int)=((4294967295 ^^^ x:Nat):Int):=vX 4294967295 x (by omega) h
theorem KU(x:Nat)(h:x<4294967296):IntKind.u32.wrap (x:Int)=(x:Int):=Ks _ (by omega) (by omega)
theorem ZN(a:Nat)(ha:a<4294967296):bits .and .u32 (a:Int) 1=((a%2:Nat):Int):=by
 rw[show(1:Int)=((1:Nat):Int) from rfl,Jw a 1 ha (by omega),Nat.and_one_is_mod]
theorem V3(s:ByteArray)(w:World)(hs:s.size<=9223372036854775807):
 Calls Tryz.prog 173 #[.string s] w fun e w'=>e=.returned (.int .u32 (Zp s:Nat))/\w=w':=by
 go_enter Tryz.func173,Tryz.ntmps173
 go_wp2_with fail
 go_loop [3,7] (fun vx vi=>∃k x:Nat,k<=s.size/\vi=.int .i64 k/\vx=.int .u32 x/\Hid (x=Ve (bL s k))/\x<4294967296) (fun _ vi=>s.size-(intOf vi).toNat)
 case atStart=>exact⟨0,4294967295,Nat.zero_le _,rfl,rfl,zH rfl,by omega⟩
 case round=>
  obtain⟨k,x,hk,rfl,rfl,hx,hxb⟩:=hrel;by_cases hlt:k<s.size
  . obtain⟨c,hc⟩:∃c,zJ s k=c:=⟨_,rfl⟩
    have hcb:c<256:=by rw[<-hc];exact yH _ _
    have hbs:=yT s k hlt;have e0:IntKind.u32.wrap (s[k].toNat:Int)=(c:Int):=by rw[hbs,hc];exact KU c (by omega)
    obtain⟨y,hy⟩:∃y,x ^^^ c=y:=⟨_,rfl⟩
    have hyb:y<4294967296:=by rw[<-hy];exact x32 hxb (by omega)
    have e1:bits .xor .u32 (x:Int) (c:Int)=(y:Int):=by rw[vX x c hxb (by omega),hy]
    have hst:Hid (itP 8 y=Ve (bL s (k+1))):=zH (by rw[zbF,zcG,<-hx.out,hc,hy]);clear hc hbs hy;go_wp2_with fail
    go_loop [3,16] (fun vx vj=>∃j z:Nat,j<=8/\vj=.int .i64 j/\vx=.int .u32 z/\Hid (z=itP j y)/\z<4294967296) (fun _ vj=>8-(intOf vj).toNat)
    case atStart=>exact⟨0,y,Nat.zero_le _,rfl,rfl,zH rfl,hyb⟩
    case round=>
     obtain⟨j,z,hj,rfl,rfl,hz,hzb⟩:=hrel;by_cases hj8:j<8
     . have b1:=ZN z hzb;rcases Nat.mod_two_eq_zero_or_one z with h|h
       . have t1:(bits .and .u32 (z:Int) 1==1)=false:=by rw[b1,h];rfl
         have hz2:Hid (z / 2=itP (j+1) y):=zH (by simp only[itP];rw[<-hz.out];unfold ZM;rw[if_neg (by omega)]);obtain⟨u,hu⟩:∃u,z / 2=u:=⟨_,rfl⟩
         have eu:(z:Int) / 2=(u:Int):=by omega
         have hub:u<4294967296:=by omega
         rw[hu]at hz2;clear h b1 hu;go_wp2_with fail
         go_round
         case rel=>exact⟨j+1,u,by omega,by go_num,rfl,hz2,hub⟩
         case measure=>simp[intOf];omega
       . have t1:(bits .and .u32 (z:Int) 1==1)=true:=by rw[b1,h];rfl
         obtain⟨u,hu⟩:∃u,z / 2=u:=⟨_,rfl⟩
         have eu:(z:Int) / 2=(u:Int):=by omega
         have hub:u<4294967296:=by omega
         have e3:bits .xor .u32 (u:Int) 2197175160=((u ^^^ 2197175160:Nat):Int):=vX u 2197175160 hub (by omega);have hz2:Hid (u ^^^ 2197175160=itP (j+1) y):=zH (by simp only[itP];rw[<-hz.out];unfold ZM;rw[if_pos h,hu]);have hvb:u ^^^ 2197175160<4294967296:=x32 hub (by omega);obtain⟨v,hv⟩:∃v,u ^^^ 2197175160=v:=⟨_,rfl⟩
         rw[hv]at e3 hz2 hvb;clear h b1 hu hv;go_wp2_with fail
         go_round
         case rel=>exact⟨j+1,v,by omega,by go_num,rfl,hz2,hvb⟩
         case measure=>simp[intOf];omega
     . obtain rfl:j=8:=by omega
       have hz2:Hid (z=Ve (bL s (k+1))):=zH (hz.out.trans hst.out);go_wp2_with fail
       go_round
       case rel=>exact⟨k+1,z,by omega,by go_num,rfl,hz2,hzb⟩
       case measure=>simp[intOf];omega
  . obtain rfl:k=s.size:=by omega
    have hfin:Hid (4294967295 ^^^ x=Zp s):=zH (by unfold Zp;rw[<-hx.out]);have e9:=zbG x hxb;obtain⟨y,hy⟩:∃y,4294967295 ^^^ x=y:=⟨_,rfl⟩
    rw[hy]at e9 hfin;clear hy;go_wp2_with fail
    go_ret
    exact⟨by rw[<-hfin.out];rfl,rfl⟩
theorem V4(s:ByteArray)(w:World)(hs:s.size<=9223372036854775807):
 Calls Tryz.prog 112 #[.string s] w fun e w'=>e=.returned (.int .u32 (Zp s:Nat))/\Below w.heap.size w w':=by
 have BS:=run_bytes_of_string (P:=Tryz.prog) w 9 113 5 s Tryz.underlying9 Tryz.underlying113 Tryz.underlying5;obtain⟨gc,hgc⟩:∃gc,grownCap w s.size 0 5=gc:=⟨_,rfl⟩
 rw[hgc]at BS;obtain⟨gb,hgb⟩:∃gb,w.heap.size=gb:=⟨_,rfl⟩
 have RC:RowC (w.drew.alloc (.cells (bytesRow s gc) 5 ((bytesRow s gc).size,(bytesRow s gc).size+1))) gb s.size (fun j=>.int .u8 (zJ s j:Nat)):=by rw[<-hgb];exact kL w.drew s gc
 have B7:Below w.heap.size w (w.drew.alloc (.cells (bytesRow s gc) 5 ((bytesRow s gc).size,(bytesRow s gc).size+1))):=(yc _ _ 1).alloc (Nat.le_refl _) _;obtain⟨W7,hW7⟩:∃W7,w.drew.alloc (.cells (bytesRow s gc) 5 ((bytesRow s gc).size,(bytesRow s gc).size+1))=W7:=⟨_,rfl⟩
 rw[hW7]at BS RC B7;rw[hgb]at BS;have HRC:=zH RC;have HB7:=zH B7;clear RC B7 hW7 hgc hgb;go_enter Tryz.func112,Tryz.ntmps112
 go_wp2_with fail
 clear BS
 go_loop [3,13] (fun vx vi=>∃k x:Nat,k<=s.size/\vi=.int .i64 k/\vx=.int .u32 x/\Hid (x=zai (bL s k))/\x<4294967296) (fun _ vi=>s.size-(intOf vi).toNat)
 case atStart=>exact⟨0,4294967295,Nat.zero_le _,rfl,rfl,zH rfl,by omega⟩
 case round=>
  obtain⟨k,x,hk,rfl,rfl,hx,hxb⟩:=hrel;by_cases hlt:k<s.size
  . obtain⟨c,hc⟩:∃c,zJ s k=c:=⟨_,rfl⟩
    have hcb:c<256:=by rw[<-hc];exact yH _ _
    have c1:W7.cell? ⟨gb,k,none⟩=some (.int .u8 (zJ s k:Nat)):=(HRC.out k hlt).1;rw[hc]at c1;have hst:Hid (itR c 8 x=zai (bL s (k+1))):=zH (by rw[zbF,zcH,<-hx.out,hc]);clear hc;have k0:(0:Int)<=(k:Int):=by omega
    have k1:(k:Int)<(s.size:Int):=by omega
    go_wp2_with fail
    go_loop [3,17] (fun vx vj=>∃j z:Nat,j<=8/\vj=.int .i64 j/\vx=.int .u32 z/\Hid (z=itR c j x)/\z<4294967296) (fun _ vj=>8-(intOf vj).toNat)
    case atStart=>exact⟨0,x,Nat.zero_le _,rfl,rfl,zH rfl,hxb⟩
    case round=>
     obtain⟨j,z,hj,rfl,rfl,hz,hzb⟩:=hrel;by_cases hj8:j<8
     . obtain⟨q,hq⟩:∃q,z / 2147483648=q:=⟨_,rfl⟩
       have hqb:q<=1:=by omega
       have d1:(z:Int) / 2147483648=(q:Int):=by omega
       obtain⟨r,hr⟩:∃r,c / 2^j%2=r:=⟨_,rfl⟩
       have hrb:r<=1:=by omega
       have d2:bits .and .u8 ((c:Int) / 2^j) 1=(r:Int):=by
        have h1:((c:Int) / 2^j)=((c / 2^j:Nat):Int):=by push_cast;rfl
        rw[h1,jJ _ (Nat.lt_of_le_of_lt (Nat.div_le_self _ _) hcb),hr]
       have d3:IntKind.u32.wrap (r:Int)=(r:Int):=KU r (by omega);obtain⟨b,hb⟩:∃b,q ^^^ r=b:=⟨_,rfl⟩
       have d4:bits .xor .u32 (q:Int) (r:Int)=(b:Int):=by rw[vX q r (by omega) (by omega),hb]
       obtain⟨y,hy⟩:∃y,z*2%4294967296=y:=⟨_,rfl⟩
       have hyb:y<4294967296:=by omega
       have d5:IntKind.u32.wrap ((z:Int)*2)=(y:Int):=by
        rw[<-hy];simp only[IntKind.wrap,IntKind.signed,IntKind.bits];simp
       have hnx:Hid (itR c (j+1) x=if b=1 then y ^^^ 517762881 else y):=zH (by
        simp only[itR];rw[<-hz.out,hr];unfold Xx;rw[hq,hb,hy])
       clear hq hr hb hy;by_cases hb1:b=1
       . have t1:((b:Int)==1)=true:=by simp[hb1]
         obtain⟨v,hv⟩:∃v,y ^^^ 517762881=v:=⟨_,rfl⟩
         have hvb:v<4294967296:=by rw[<-hv];exact x32 hyb (by omega)
         have d6:bits .xor .u32 (y:Int) 517762881=(v:Int):=by rw[<-hv];exact vX y 517762881 hyb (by omega)
         have hz2:Hid (v=itR c (j+1) x):=zH (by rw[hnx.out,if_pos hb1,hv]);have hb2:¬(b=0):=by omega
         have HB1:=zH hb1;clear hb1 hv;go_wp2_with fail
         go_round
         case rel=>exact⟨j+1,v,by omega,by go_num,rfl,hz2,hvb⟩
         case measure=>simp[intOf];omega
       . have t1:((b:Int)==1)=false:=by simp;omega
         have hz2:Hid (y=itR c (j+1) x):=zH (by rw[hnx.out,if_neg hb1]);go_wp2_with fail
         go_round
         case rel=>exact⟨j+1,y,by omega,by go_num,rfl,hz2,hyb⟩
         case measure=>simp[intOf];omega
     . obtain rfl:j=8:=by omega
       have hz2:Hid (z=zai (bL s (k+1))):=zH (hz.out.trans hst.out);go_wp2_with fail
       go_round
       case rel=>exact⟨k+1,z,by omega,by go_num,rfl,hz2,hzb⟩
       case measure=>simp[intOf];omega
  . obtain rfl:k=s.size:=by omega
    go_wp2_with fail
    go_loop [8,36] (fun vo vi=>∃i o:Nat,i<=32/\vi=.int .i64 i/\vo=.int .u32 o/\Hid (o=zaf x i)/\o<4294967296) (fun _ vi=>32-(intOf vi).toNat)
    case atStart=>exact⟨0,0,Nat.zero_le _,rfl,rfl,zH rfl,by omega⟩
    case round=>
     obtain⟨i,o,hi,rfl,rfl,ho,hob⟩:=hrel;by_cases hi32:i<32
     . obtain⟨r,hr⟩:∃r,x / 2^i%2=r:=⟨_,rfl⟩
       have hrb:r<=1:=by omega
       have d1:bits .and .u32 ((x:Int) / 2^i) 1=(r:Int):=by
        have h1:((x:Int) / 2^i)=((x / 2^i:Nat):Int):=by push_cast;rfl
        rw[h1,ZN _ (Nat.lt_of_le_of_lt (Nat.div_le_self _ _) hxb),hr]
       obtain⟨v,hv⟩:∃v,r*2^(31-i)=v:=⟨_,rfl⟩
       have hvb:v<4294967296:=by
        rw[<-hv];have h2:2^(31-i)<=2^31:=Nat.pow_le_pow_right (by omega) (by omega);have:=Nat.mul_le_mul hrb h2;omega
       have d2:(31-(i:Int)).toNat=31-i:=by omega
       have d2':(0:Int)<=31-(i:Int):=by omega
       have d3:IntKind.u32.wrap ((r:Int)*2^(31-i))=(v:Int):=by
        have h1:((r:Int)*2^(31-i))=(v:Int):=by rw[<-hv];push_cast;rfl
        rw[h1];exact KU v hvb
       have d4:bits .or .u32 (o:Int) (v:Int)=((o ||| v:Nat):Int):=zaN o v hob hvb;have ho2:Hid (o ||| v=zaf x (i+1)):=zH (by simp only[zaf];rw[<-ho.out,hr,hv]);have hob2:o ||| v<4294967296:=Nat.or_lt_two_pow (n:=32) hob hvb
       obtain⟨u,hu⟩:∃u,o ||| v=u:=⟨_,rfl⟩
       rw[hu]at d4 ho2 hob2;clear hr hv hu;go_wp2_with fail
       go_round
       case rel=>exact⟨i+1,u,by omega,by go_num,rfl,ho2,hob2⟩
       case measure=>simp[intOf];omega
     . obtain rfl:i=32:=by omega
       have hfin:Hid (4294967295 ^^^ o=Zp s):=zH (by
        unfold Zp;rw[ho.out,hx.out,zah (Xy (zfr s _))])
       have e9:=zbG o hob;obtain⟨y,hy⟩:∃y,4294967295 ^^^ o=y:=⟨_,rfl⟩
       rw[hy]at e9 hfin;clear hy;go_wp2_with fail
       go_ret
       exact⟨by rw[<-hfin.out];rfl,HB7.out⟩
def yi(l:List Nat):ByteArray:=⟨(l.map UInt8.ofNat).toArray⟩
theorem yX(l:List Nat):(yi l).size=l.length:=by simp[yi,ByteArray.size]
theorem J3(m:Nat)(f:Nat->Nat):zE m f=yi ((List.range m).map f):=by
 unfold zE yi;rw[List.map_map];rfl
theorem zcB{l:List Nat}{k:Nat}(h:k<l.length)(hl:∀c∈l,c<256):zJ (yi l) k=l.getD k 0:=by
 unfold zJ yi;rw[List.getD_eq_getElem?_getD,List.getD_eq_getElem?_getD];simp[h];have:=hl _ (List.getElem_mem h);omega
theorem Xt(l:List Nat):(List.range l.length).map (fun k=>l.getD k 0)=l:=by
 apply List.ext_getElem?;intro j;by_cases h:j<l.length
 . simp[h]
 . simp[h]
theorem zcC(l:List Nat):zE l.length (fun k=>l.getD k 0)=yi l:=by rw[J3,Xt]
theorem zcD(l:List Nat):pI l.length (fun k=>l.getD k 0)=l.map (fun c=>Value.int .u8 (c:Nat)):=by
 unfold pI zX;have h:=Xt l
 conv=>rhs;rw[<-h]
 rw[List.map_map];rfl
theorem qO(l:List Nat)(ao:Option Addr)(cap:Nat)(W:World)(hl:∀c∈l,c<256)(hn:ao=none->l.length=0)(hR:Reads W ao (l.map (fun c=>Value.int .u8 (c:Nat)))):
 (convert 113 9 (.slice ao l.length cap)).run Tryz.prog W=.ok (.string (yi l)) W:=by
 rw[<-zcD]at hR;have:=pt l.length (fun k=>l.getD k 0) ao cap W (fun k hk=>by
  show l.getD k 0<256;rw[List.getD_eq_getElem?_getD,List.getElem?_eq_getElem hk];exact hl _ (List.getElem_mem hk)) hn hR
 rwa [zcC]at this
theorem kR(a:Nat)(h:a<256):IntKind.u8.wrap (a:Int)=(a:Int):=by
 simp only[IntKind.wrap,IntKind.signed,IntKind.bits];simp;omega
theorem zF{w:World}{base e size:Nat}{ao:Option Addr}{n m cap:Nat}{xs:List Value}(h:w.ownsRow base e size (.slice ao n cap) m xs):Reads w ao xs:=by
 obtain⟨a,c,hv,hR,_,_⟩:=zr h;cases hv;exact hR
def vF(c:Nat):List Nat:=[c%256,c / 256%256,c / 65536%256,c / 16777216%256]
theorem Xu(c:Nat):∀x∈vF c,x<256:=by
 intro x hx;simp[vF]at hx;omega
def qB(T m:Nat)(f:Nat->Nat):List Nat:=T::(List.range m).map f
theorem pG(T m:Nat)(f:Nat->Nat):(qB T m f).length=m+1:=by simp[qB]
def qx(T m:Nat)(f:Nat->Nat):ByteArray:=yi (qB T m f)++yi (vF (Zp (yi (qB T m f))))
theorem ph(T m:Nat)(f:Nat->Nat):(qx T m f).size=m+5:=by
 unfold qx;rw[ByteArray.size_append,yX,yX,pG];rfl
def yZ(T k:Nat):Nat:=(T+k-1) / k
theorem vG{T k:Nat}(hk:1<=k):yZ T k<=T:=by
 unfold yZ;rcases Nat.eq_zero_or_pos T with rfl|hT
 . rw[Nat.zero_add,Nat.div_eq_of_lt (by omega)];exact Nat.le_refl _
 . apply Nat.le_of_lt_succ;rw[Nat.div_lt_iff_lt_mul (by omega)];have:T*1<=T*k:=Nat.mul_le_mul_left T hk;rw[Nat.succ_mul];have h2:k<=T*k:=Nat.le_mul_of_pos_left k hT;omega
theorem J4{T k z:Nat}(hk:1<=k):z<yZ T k↔z*k<T:=by
 unfold yZ;rw[show z<(T+k-1) / k↔z+1<=(T+k-1) / k from Iff.rfl,Nat.le_div_iff_mul_le (by omega),Nat.succ_mul];omega
theorem QM{T k:Nat}(hk:1<=k):T<=yZ T k*k:=by
 rcases Nat.lt_or_ge (yZ T k*k) T with h|h
 . exact absurd ((J4 hk).2 h) (Nat.lt_irrefl _)
 . exact h
theorem jM(T k:Nat)(w:World)(hT:T<=1000000)(hk:1<=k)(hk2:k<=1000000):
 Calls Tryz.prog 153 #[.int .i64 T,.int .i64 k] w fun e w'=>e=.returned (.int .i64 (yZ T k:Nat))/\w=w':=by
 have a0:¬(k=0):=by omega
 obtain⟨s,hs⟩:∃s,yZ T k=s:=⟨_,rfl⟩
 have hsT:s<=T:=by rw[<-hs];exact vG hk
 have t1:((T:Int)+k-1).tdiv (k:Int)=(s:Int):=by
  rw[show(T:Int)+k-1=((T+k-1:Nat):Int) by omega,Int.tdiv_eq_ediv_of_nonneg (by omega),<-hs];rfl
 have t2:((T:Int)+k-1) / (k:Int)=(s:Int):=by
  rw[show(T:Int)+k-1=((T+k-1:Nat):Int) by omega,<-hs];rfl
 have u1:IntKind.i64.wrap (s:Int)=(s:Int):=IntWalk.i64_in _ (by omega);rw[hs];clear hs;go_enter Tryz.func153,Tryz.ntmps153
 go_wp2_with fail
 go_ret
 exact⟨rfl,rfl⟩
def qg(k n:Int):Bool:=decide (1<=k)&&decide (k<=n)&&decide (n<=10)
theorem pi(k n:Int)(w:World):
 Calls Tryz.prog 152 #[.int .i64 k,.int .i64 n] w fun e w'=>e=.returned (.bool (qg k n))/\w=w':=by
 unfold qg;cases h1:decide (1<=k)<;>cases h2:decide (k<=n)<;>cases h3:decide (n<=10)
 all_goals
  go_enter Tryz.func152,Tryz.ntmps152
  go_wp2_with fail
  go_ret
  exact⟨rfl,rfl⟩
theorem J5(c:Nat)(w:World)(hc:c<4294967296):
 Calls Tryz.prog 111 #[.int .u32 c] w fun e w'=>e=.returned (.string (yi (vF c)))/\Below w.heap.size w w':=by
 have kc:=fun W h=>qO (vF c) (some ⟨w.heap.size,0,none⟩) 4 W (Xu c) (fun h=>by cases h) h
 obtain⟨a,ha⟩:∃a,c%256=a:=⟨_,rfl⟩
 obtain⟨b,hb⟩:∃a,c / 256%256=a:=⟨_,rfl⟩
 obtain⟨d,hd⟩:∃a,c / 65536%256=a:=⟨_,rfl⟩
 obtain⟨f,hf⟩:∃a,c / 16777216=a:=⟨_,rfl⟩
 have hfe:c / 16777216%256=f:=by omega
 have e1:(c:Int)%256=(a:Int):=by omega
 have e2:(c:Int) / 256%256=(b:Int):=by omega
 have e3:(c:Int) / 65536%256=(d:Int):=by omega
 have e4:(c:Int) / 16777216=(f:Int):=by omega
 have w1:=kR a (by omega);have w2:=kR b (by omega);have w3:=kR d (by omega);have w4:=kR f (by omega);have hF:vF c=[a,b,d,f]:=by unfold vF;rw[ha,hb,hd,hfe]
 rw[hF]at kc;have k1:(convert 113 9 (.slice (some ⟨w.heap.size,0,none⟩) 4 4)).run Tryz.prog (w.alloc (.cells #[.int .u8 a,.int .u8 b,.int .u8 d,.int .u8 f] 5))=.ok (.string (yi [a,b,d,f])) (w.alloc (.cells #[.int .u8 a,.int .u8 b,.int .u8 d,.int .u8 f] 5)):=kc _ (yK w _ _);rw[hF];clear ha hb hd hf hfe hF kc;have hbel:=zH ((Below.refl w.heap.size w).alloc (Nat.le_refl _) (.cells #[.int .u8 a,.int .u8 b,.int .u8 d,.int .u8 f] 5));go_enter Tryz.func111,Tryz.ntmps111
 go_wp2_with fail
 go_ret
 exact⟨rfl,hbel.out⟩
theorem KN(T m:Nat)(f:Nat->Nat)(ao:Option Addr)(cap:Nat)(w:World)(hT:T<256)(hm:m<=1000000)(hf:∀j,j<m->f j<256)(hn:ao=none->m=0/\cap=0)(hR:Hid (Reads w ao (pI m f))):
 Calls Tryz.prog 155 #[.int .i64 T,.slice ao m cap] w fun e w'=>e=.returned (.string (qx T m f))/\Below w.heap.size w w':=by
 have hl1:=pG T m f;have hlt:∀c∈qB T m f,c<256:=by
  intro c hc;simp only[qB,List.mem_cons,List.mem_map,List.mem_range]at hc;rcases hc with rfl|⟨j,hj,rfl⟩
  . exact hT
  . exact hf j hj
 have w0:=kR T hT;obtain⟨B,hB⟩:∃B,yi (qB T m f)=B:=⟨_,rfl⟩
 have hBs:B.size=m+1:=by rw[<-hB,yX,hl1]
 obtain⟨c,hc⟩:∃c,Zp B=c:=⟨_,rfl⟩
 have hcb:c<4294967296:=by rw[<-hc];exact Yo B
 have CS:=zH (fun W=>V3 B W (by omega));rw[hc]at CS;have hres:Hid (qx T m f=B++yi (vF c)):=zH (by unfold qx;rw[hB,hc]);obtain⟨a0,ha0⟩:∃a,c%256=a:=⟨_,rfl⟩
 obtain⟨a1,ha1⟩:∃a,c / 256%256=a:=⟨_,rfl⟩
 obtain⟨a2,ha2⟩:∃a,c / 65536%256=a:=⟨_,rfl⟩
 obtain⟨a3,ha3⟩:∃a,c / 16777216%256=a:=⟨_,rfl⟩
 have w1:IntKind.u8.wrap (c:Int)=(a0:Int):=by rw[IntKind.wrap_u8];omega
 have w2:IntKind.u8.wrap ((c:Int) / 256)=(a1:Int):=by rw[IntKind.wrap_u8];omega
 have w3:IntKind.u8.wrap ((c:Int) / 65536)=(a2:Int):=by rw[IntKind.wrap_u8];omega
 have w4:IntKind.u8.wrap ((c:Int) / 16777216)=(a3:Int):=by rw[IntKind.wrap_u8];omega
 have hF:vF c=[a0,a1,a2,a3]:=by unfold vF;rw[ha0,ha1,ha2,ha3]
 have kc:=fun W (g:Nat) h=>qO (vF c) (some ⟨g,0,none⟩) 4 W (Xu c) (fun h=>by cases h) h
 rw[hF]at kc;have HKC:Hid (∀W:World,(convert 113 9 (.slice (some ⟨W.heap.size,0,none⟩) 4 4)).run Tryz.prog (W.alloc (.cells #[.int .u8 a0,.int .u8 a1,.int .u8 a2,.int .u8 a3] 5))=.ok (.string (yi [a0,a1,a2,a3])) (W.alloc (.cells #[.int .u8 a0,.int .u8 a1,.int .u8 a2,.int .u8 a3] 5))):=zH (fun W=>kc _ _ (yK W _ _));have hfs:(yi [a0,a1,a2,a3]).size=4:=by rw[yX];rfl
 rw[hF]at hres;obtain⟨FS,hFS⟩:∃S,yi [a0,a1,a2,a3]=S:=⟨_,rfl⟩
 rw[hFS]at hres HKC hfs;have hsum:B.size+FS.size<=9223372036854775807:=by omega
 have HADD:=run_string_add_sum (P:=Tryz.prog) (w:=w) B FS hsum;have hown:Hid ((w.alloc (.cells #[.int .u8 (T:Nat)] 5)).ownsRow w.heap.size 5 1 (.slice (some ⟨w.heap.size,0,none⟩) 1 1) 1 [.int .u8 (T:Nat)]):=zH (KT w w.heap.size 5 [.int .u8 (T:Nat)] (Nat.le_refl _) (by unfold maxLen;simp));have hR2:Hid (Reads (w.alloc (.cells #[.int .u8 (T:Nat)] 5)) ao (pI m f)):=zH (hR.out.alloc _);have hbel:=zH ((Below.refl w.heap.size w).alloc (Nat.le_refl _) (.cells #[.int .u8 (T:Nat)] 5));have HB:=zH hB;have HLT:=zH hlt;have hrow:Hid ([.int .u8 ((T:Nat):Int)]++pI m f=(qB T m f).map (fun c=>Value.int .u8 (c:Nat))):=zH (by unfold pI zX qB;simp[List.map_map,Function.comp_def]);have HL1:=zH hl1;clear ha0 ha1 ha2 ha3 hF kc hFS hB hc hlt hl1 HADD;go_enter Tryz.func155,Tryz.ntmps155
 go_wp2_with (first
  |(at_builtin;go_must (refine Qh rfl (.tmp 9) (.tmp 10) _ rfl w.heap.size 5 _ 1 1 Tryz.underlying113 vO _ 1 _ (by rfl) hown.out ao m cap _ (by rfl) hn (by rw[Jn];omega) hR2.out (by intro u hu;unfold pI zX at hu;obtain⟨j,_,rfl⟩:=List.mem_map.1 hu;rfl) (by unfold maxLen;omega) (by omega) hbel.out.size ?_);intro v2 w2 hown2 hgr2 hb2;rw[hrow.out]at hown2;obtain⟨g2,c2,rfl⟩:=yR hown2 (by simp[qB]);have k2:=qO (qB T m f) (some ⟨g2,0,none⟩) c2 w2 HLT.out (fun h=>by cases h) (zF hown2);rw[HL1.out,HB.out,Nat.add_comm]at k2;have HB2:=zH (hbel.out.trans hb2);clear hown2 hgr2 hb2)
  |(go_at_call 173;(with_reducible refine(CS.out _).mono ?_);rintro e w5 ⟨rfl,rfl⟩;have k5:=HKC.out w2)
  |fail)
 go_ret
 exact⟨by rw[hres.out];rfl,HB2.out.trans ((Below.refl _ _).alloc HB2.out.size _)⟩
end Go.Proofs.YtmgfbmkfomebcaaGreatDoor
