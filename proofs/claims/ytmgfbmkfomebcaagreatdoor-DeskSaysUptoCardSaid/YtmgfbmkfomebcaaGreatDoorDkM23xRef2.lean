/- slices.Clone, IndexFunc and DeleteFunc at the reference's items. (Printed by wip/tools/gen_ref2.py.) -/
import Derived.Test.YtmgfbmkfomebcaaGreatDoorDkM22
import Derived.Test.YtmgfbmkfomebcaaGreatDoorDkM8
import Derived.Lib.SliceRun
set_option linter.unusedVariables false
set_option linter.unusedSimpArgs false
set_option maxHeartbeats 2000000
set_option maxRecDepth 20000
namespace Go.Proofs.YtmgfbmkfomebcaaGreatDoor
open Go.RowKit
abbrev itV(x:It):Value:=.agg #[.int .i64 (x.1:Int),.int .i64 (x.2.1:Int),.int .i64 (x.2.2.1:Int),.int .i64 0,.string x.2.2.2]
def jS(b:Bool)(w:World)(e:Ending)(w':World):Prop:=e=.returned (.bool b)/\Below w.heap.size w w'
def Ys(base:Nat)(l:List It)(n:Nat)(w:World)(e:Ending)(w':World):Prop:=
 ∃ao cap,e=.returned (.slice ao n cap)/\w'.ownsRow base 108 5 (.slice ao n cap) n (ze l)/\Below base w w'
theorem kK(l:List It)(n:Nat)(ao:Option Addr)(cap base:Nat)(w:World)(hn:n<=30000000)(hl:l.length=n)(hnone:ao=none->n=0/\cap=0)(hR:Hid (Reads w ao (ze l)))(hb:base<=w.heap.size):
 Calls Tryz.prog 50 #[.slice ao n cap] w (Ys base l n w):=by
 have HL:Hid ((ze l).length=n*5):=zH (by rw[kd,hl]);have H1:Hid (∀u∈ze l,u.oneCell'=true):=zH (JZ l);cases ao with
 |none=>
  obtain⟨rfl,rfl⟩:=hnone rfl;have hx:Hid (ze l=[]):=zH (List.eq_nil_of_length_eq_zero (by rw[HL.out]));have heq:=Lib.run_eql_slice_nil (P:=Tryz.prog) w 39 108 none 0 0 0 0 Tryz.underlying39;clear hl hnone;go_enter Tryz.func50,Tryz.ntmps50
  go_wp2_with fail
  go_ret
  refine⟨none,0,rfl,?_,Below.refl _ _⟩;rw[hx.out];exact World.ownsRow_nil _ _ _ _
 |some a=>
  have heq:=Lib.run_eql_slice_nil (P:=Tryz.prog) w 39 108 (some a) n cap 0 0 Tryz.underlying39;clear hl hnone;have hown:Hid ((w.alloc (.cells #[] 108)).ownsRow base 108 5 (.slice (some ⟨w.heap.size,0,none⟩) 0 0) 0 []):=zH ⟨rfl,.inr ⟨w.heap.size,0,#[],rfl,hb,heap_alloc_new w _,Nat.le_refl _,by unfold maxLen;omega,rfl,rfl⟩⟩;have hR2:Hid (Reads (w.alloc (.cells #[] 108)) (some a) (ze l)):=zH (hR.out.alloc _);have hbel:Hid (Below base w (w.alloc (.cells #[] 108))):=zH ((Below.refl _ _).alloc hb _);go_enter Tryz.func50,Tryz.ntmps50
  go_wp2_with (at_builtin;go_must (refine Qh rfl (.tmp 5) (.tmp 6) _ rfl base 108 _ 5 48 Tryz.underlying39 qI _ 0 [] (by rfl) hown.out (some a) n cap (ze l) (by rfl) (fun h=>by cases h) HL.out hR2.out H1.out (by unfold maxLen;omega) (by omega) (Nat.le_trans hb hbel.out.size) ?_);intro v2 w2 hown2 hgr2 hb2)
  have hown3:w2.ownsRow base 108 5 v2 n (ze l):=by simpa using hown2
  obtain⟨ao2,c2,rfl,_,_,_⟩:=zr hown3;have HO:=zH hown3;have HB:=zH hb2;clear hown2 hgr2 hb2 hown3;go_wp2_with fail
  go_ret
  exact⟨ao2,c2,rfl,HO.out,hbel.out.trans HB.out⟩
theorem jW{L:List It}{i:Nat}(x:It)(hi:i<L.length):ze (L.set i x)=(((((ze L).set (i*5) (.int .i64 (x.1:Int))).set (i*5+1) (.int .i64 (x.2.1:Int))).set (i*5+2) (.int .i64 (x.2.2.1:Int))).set (i*5+3) (.int .i64 0)).set (i*5+4) (.string x.2.2.2):=by
 induction L generalizing i with
 |nil=>simp at hi
 |cons y t ih=>
  have e:∀(z:It) (m:List It),ze (z::m)=itC z++ze m:=fun z m=>by simp[ze]
  cases i with
  |zero=>
   rw[List.set_cons_zero,e,e];rfl
  |succ i=>
   have hi2:i<t.length:=by simpa using hi
   rw[List.set_cons_succ,e,e,ih hi2];have h5:(itC y).length=5:=rfl;rw[List.set_append_right _ _ (by rw[h5];omega),List.set_append_right _ _ (by rw[h5];omega),List.set_append_right _ _ (by rw[h5];omega),List.set_append_right _ _ (by rw[h5];omega),List.set_append_right _ _ (by rw[h5];omega),h5];rw[show(i+1)*5-5=i*5 by omega,show(i+1)*5+1-5=i*5+1 by omega,show(i+1)*5+2-5=i*5+2 by omega,show(i+1)*5+3-5=i*5+3 by omega,show(i+1)*5+4-5=i*5+4 by omega]
def zf8(p:It->Bool)(l:List It)(r:Int):Prop:=(∃(j:Nat) (x:It),l[j]?=some x/\p x=true/\(∀(i:Nat) (y:It),i<j->l[i]?=some y->p y=false)/\r=j)\/((∀x∈l,p x=false)/\r= -1)
def zel(p:It->Bool)(l:List It)(w:World)(e:Ending)(w':World):Prop:=∃r:Int,e=.returned (.int .i64 r)/\zf8 p l r/\Below w.heap.size w w'
def yw(p:It->Bool)(l:List It):List It:=l.filter (fun x=> !p x)
theorem jy{p:It->Bool}{l:List It}{j:Nat}{x:It}(h:l[j]?=some x):yw p (l.take (j+1))=if p x=true then yw p (l.take j) else yw p (l.take j)++[x]:=by
 obtain⟨hq,he⟩:=List.getElem?_eq_some_iff.1 h;unfold yw;rw[List.take_succ_eq_append_getElem hq,he,List.filter_append];by_cases hx:p x=true
 . rw[if_pos hx];simp[hx]
 . rw[if_neg hx];simp[hx]
theorem Zv{p:It->Bool}{l:List It}{j:Nat}(h:∀(i:Nat) (y:It),i<j->l[i]?=some y->p y=false)(hj:j<=l.length):yw p (l.take j)=l.take j:=by
 unfold yw;rw[List.filter_eq_self];intro x hx;obtain⟨i,hi⟩:=List.getElem?_of_mem hx;rw[List.getElem?_take]at hi
 split at hi
 . rename_i hij;rw[h i x hij hi];rfl
 . cases hi
theorem Zw{l m:List It}{j:Nat}(h:l.drop j=m.drop j){x:It}(hx:m[j]?=some x):l[j]?=some x:=by
 have:=congrArg (fun z=>z[0]?) h;simp only[List.getElem?_drop,Nat.add_zero]at this;rw[this,hx]
theorem Vn:∀w,(zeroValue 108).run Tryz.prog w=.ok (.agg #[.int .i64 0,.int .i64 0,.int .i64 0,.int .i64 0,.string ByteArray.empty]) w:=Tryz.zeroValue108
theorem Qn{w:World}{base e size:Nat}{ao:Option Addr}{n m cap:Nat}{xs:List Value}(h:w.ownsRow base e size (.slice ao n cap) m xs):n<=cap/\cap<=maxLen:=by
 rcases h.2 with⟨hv,_⟩|⟨g,c,cur,hv,_,_,h1,h2,_⟩
 . cases hv;exact⟨Nat.le_refl _,by unfold maxLen;omega⟩
 . cases hv;exact⟨h1,h2⟩
theorem zcZ(x c d:Value)(W:World):(callFunc 113 #[x,c,d]).run Tryz.prog W=.ok (.enter 113 #[x,c,d]) W:=by kernel_rfl
theorem zc0(c d:Value)(p:It->Bool)(l:List It)(n:Nat)(ao:Option Addr)(cap:Nat)(w:World)(hl:l.length=n)(hn:n<=30000000)(hR:Hid (Reads w ao (ze l)))
 (hf:Hid (∀x∈l,∀W,Below w.heap.size w W->Calls Tryz.prog 113 #[itV x,c,d] W (jS (p x) W))):
 Calls Tryz.prog 82 #[.slice ao n cap,.func (.func 113) #[] #[c,d]] w (zel p l w):=by
 have HL:=zH hl;have hfn:=zcZ;unfold jS at hf;clear hl;go_enter Tryz.func82,Tryz.ntmps82
 go_wp2_with fail
 go_loopw [8] (fun vi wr=>∃k:Nat,vi=.int .i64 k/\k<=n/\Hid (∀(i:Nat) (y:It),i<k->l[i]?=some y->p y=false)/\Hid (Below w.heap.size w wr)) (fun vi _=>n-(intOf vi).toNat)
 case atStart=>exact⟨0,rfl,by omega,zH (by intro j y hj;omega),zH (Below.refl _ _)⟩
 case round=>
  obtain⟨k,rfl,hk,hno,HB⟩:=hrel;obtain⟨wo,rfl⟩:∃wo,wo=wr:=⟨_,rfl⟩
  by_cases hkl:k<n
  . obtain⟨x,hx⟩:∃x,l[k]?=some x:=⟨l[k]'(by rw[HL.out];exact hkl),List.getElem?_eq_getElem _⟩
    obtain⟨b,o,rfl,z0,z1,z2,z3,z4⟩:=ke (hR.out.below HB.out) hx;have HX:=zH hx;have C:=zH (hf.out x (List.mem_of_getElem? hx) wo HB.out);cases hp:p x with
    |true=>
     rw[hp]at C;have HP:=zH hp;clear hx hp;go_wp2_with fail
     (with_reducible refine C.out.mono ?_)
     rintro e w' ⟨rfl,hb⟩;have HB1:=zH (HB.out.trans (hb.mono HB.out.size));clear hb C;go_wp2_with fail
     go_ret
     exact⟨_,rfl,.inl ⟨k,x,HX.out,HP.out,hno.out,rfl⟩,HB1.out⟩
    |false=>
     rw[hp]at C;have HP:=zH hp;clear hx hp;go_wp2_with fail
     (with_reducible refine C.out.mono ?_)
     rintro e w' ⟨rfl,hb⟩;have HB1:=zH (HB.out.trans (hb.mono HB.out.size));clear hb C;go_wp2_with fail
     go_roundw
     case rel=>exact⟨k+1,by go_num,by omega,zH (by
      intro i y hi hy;by_cases he:i=k
      . subst he;rw[HX.out]at hy;cases hy;exact HP.out
      . exact hno.out i y (by omega) hy),HB1⟩
     case measure=>simp[intOf];omega
  . obtain rfl:n=k:=by omega
    go_wp2_with fail
    go_ret
    refine⟨_,rfl,.inr ⟨fun x hx=>?_,rfl⟩,HB.out⟩;obtain⟨j,hj⟩:=List.getElem?_of_mem hx;exact hno.out j x (by have:=(List.getElem?_eq_some_iff.1 hj).1;have:=HL.out;omega) hj
theorem zbO(c d:Value)(p:It->Bool)(l:List It)(n:Nat)(ao:Option Addr)(cap base:Nat)(w:World)(hl:l.length=n)(hn:n<=30000000)(ho:w.ownsRow base 108 5 (.slice ao n cap) n (ze l))(hbase:base<=w.heap.size)
 (hf:Hid (∀x∈l,∀W,Below base w W->Calls Tryz.prog 113 #[itV x,c,d] W (jS (p x) W))):
 Calls Tryz.prog 49 #[.slice ao n cap,.func (.func 113) #[] #[c,d]] w (Ys base (yw p l) (yw p l).length w):=by
 have HR:=zH (zF ho);have CI:=zH (zc0 c d p l n ao cap w hl hn HR (zH fun x hx W hb=>hf.out x hx W (hb.mono hbase)));unfold zel at CI;have HO:=zH ho;have HL:=zH hl;have hfn:=zcZ;have HBASE:=zH hbase;clear hl ho hbase;go_enter Tryz.func49,Tryz.ntmps49
 go_wp2_with fail
 (with_reducible refine CI.out.mono ?_)
 rintro e w1 ⟨r,rfl,hr,hb1⟩;have HO1:=zH (zi HO.out hb1);have HB1:=zH (hb1.mono HBASE.out);clear hb1;rcases hr with⟨i0,x0,hx0,hp0,hno,rfl⟩|⟨hall,rfl⟩
 rotate_left
 . have he:yw p l=l:=by
    unfold yw;rw[List.filter_eq_self];intro x hx;rw[hall x hx];rfl
   have HE:=zH he;clear he hall;go_wp2_with fail
   go_ret
   exact⟨ao,cap,by rw[HE.out,HL.out];rfl,by rw[HE.out,HL.out];exact HO1.out,HB1.out⟩
 have hi0:=(List.getElem?_eq_some_iff.1 hx0).1;rw[HL.out]at hi0;obtain⟨g,rfl⟩:∃g,ao=some ⟨g,0,none⟩:=by
  obtain⟨g,c',hv⟩:=yR HO1.out (by
   intro h0;have:=congrArg List.length h0;rw[kd,HL.out]at this;simp at this;omega)
  exact⟨g,by injection hv⟩
 have t0:((i0:Int)== -1)=false:=by rw[beq_eq_false_iff_ne];omega
 have hs0:=jy (p:=p) hx0;rw[if_pos hp0,Zv hno (by rw[HL.out];omega)]at hs0;have HS0:=zH hs0;clear hs0 hno hp0 hx0 CI;go_wp2_with fail
 go_loopw [5,6] (fun vi vj wr=>∃(i j:Nat) (L:List It),vi=.int .i64 i/\vj=.int .i64 j/\i<j/\j<=n/\Hid (L.length=n)/\Hid ((yw p (l.take j)).length=i)/\Hid (L.take i=yw p (l.take j))/\Hid (L.drop j=l.drop j)/\Hid (wr.ownsRow base 108 5 (.slice (some ⟨g,0,none⟩) n cap) n (ze L))/\Hid (Below base w wr)) (fun _ vj _=>n-(intOf vj).toNat)
 case atStart=>exact⟨i0,i0+1,l,rfl,by go_num,by omega,by omega,HL,zH (by rw[HS0.out,List.length_take,HL.out];omega),zH HS0.out.symm,zH rfl,HO1,HB1⟩
 case round=>
  clear HO1 HB1;obtain⟨i,j,L,rfl,rfl,hij,hj,HLL,HI,HT,HDR,HOr,HB⟩:=hrel;obtain⟨wo,rfl⟩:∃wo,wo=wr:=⟨_,rfl⟩
  have hcap:=(Qn HOr.out).1;have hcap2:=(Qn HOr.out).2;by_cases hjn:j<n
  . obtain⟨x,hx⟩:∃x,l[j]?=some x:=⟨l[j]'(by rw[HL.out];exact hjn),List.getElem?_eq_getElem _⟩
    have hxL:=Zw HDR.out hx;obtain⟨ba,oa,hra,z0,z1,z2,z3,z4⟩:=ke (zF HOr.out) hxL;cases hra;simp only[Nat.zero_add]at z0 z1 z2 z3 z4;have hsn:=jy (p:=p) hx;have HX:=zH hx;have hbx:=zc wo (.cells #[.int .i64 (x.1:Int),.int .i64 (x.2.1:Int),.int .i64 (x.2.2.1:Int),.int .i64 0,.string x.2.2.2] 108);have HBX:=zH hbx;have HBw:Hid (Below base w (wo.alloc (.cells #[.int .i64 (x.1:Int),.int .i64 (x.2.1:Int),.int .i64 (x.2.2.1:Int),.int .i64 0,.string x.2.2.2] 108))):=zH (HB.out.trans (hbx.mono (Nat.le_trans HBASE.out HB.out.size)));have C:=zH (hf.out x (List.mem_of_getElem? hx) _ HBw.out);unfold jS at C;have n0:(wo.alloc (.cells #[.int .i64 (x.1:Int),.int .i64 (x.2.1:Int),.int .i64 (x.2.2.1:Int),.int .i64 0,.string x.2.2.2] 108)).cell? ⟨wo.heap.size,0,none⟩=some (.int .i64 (x.1:Int)):=by simp[World.cell?_alloc_new]
    have n1:(wo.alloc (.cells #[.int .i64 (x.1:Int),.int .i64 (x.2.1:Int),.int .i64 (x.2.2.1:Int),.int .i64 0,.string x.2.2.2] 108)).cell? ⟨wo.heap.size,1,none⟩=some (.int .i64 (x.2.1:Int)):=by simp[World.cell?_alloc_new]
    have n2:(wo.alloc (.cells #[.int .i64 (x.1:Int),.int .i64 (x.2.1:Int),.int .i64 (x.2.2.1:Int),.int .i64 0,.string x.2.2.2] 108)).cell? ⟨wo.heap.size,2,none⟩=some (.int .i64 (x.2.2.1:Int)):=by simp[World.cell?_alloc_new]
    have n3:(wo.alloc (.cells #[.int .i64 (x.1:Int),.int .i64 (x.2.1:Int),.int .i64 (x.2.2.1:Int),.int .i64 0,.string x.2.2.2] 108)).cell? ⟨wo.heap.size,3,none⟩=some (.int .i64 0):=by simp[World.cell?_alloc_new]
    have n4:(wo.alloc (.cells #[.int .i64 (x.1:Int),.int .i64 (x.2.1:Int),.int .i64 (x.2.2.1:Int),.int .i64 0,.string x.2.2.2] 108)).cell? ⟨wo.heap.size,4,none⟩=some (.string x.2.2.2):=by simp[World.cell?_alloc_new]
    have HNN:=zH (And.intro n0 (And.intro n1 (And.intro n2 (And.intro n3 n4))));have HSZ:Hid ((wo.alloc (.cells #[.int .i64 (x.1:Int),.int .i64 (x.2.1:Int),.int .i64 (x.2.2.1:Int),.int .i64 0,.string x.2.2.2] 108)).heap.size=wo.heap.size+1):=zH (by simp);cases hp:p x with
    |true=>
     rw[hp]at C hsn;rw[if_pos rfl]at hsn;have HSN:=zH hsn;clear hx hxL hsn hbx hp n0 n1 n2 n3 n4;go_wp2_with fail
     (with_reducible refine C.out.mono ?_)
     rintro e w2 ⟨rfl,hb2⟩;have hbo:Below wo.heap.size wo w2:=HBX.out.trans (hb2.mono (by rw[HSZ.out];omega));have HO2:=zH (zi HOr.out hbo);have HB2:Hid (Below base w w2):=zH (HB.out.trans (hbo.mono (Nat.le_trans HBASE.out HB.out.size)));clear hb2 hbo C;go_wp2_with fail
     go_roundw
     case rel=>exact⟨i,j+1,L,rfl,by go_num,by omega,by omega,HLL,zH (by rw[HSN.out];exact HI.out),zH (by rw[HSN.out];exact HT.out),zH (by rw[<-List.drop_drop,HDR.out,List.drop_drop]),HO2,HB2⟩
     case measure=>simp[intOf];omega
    |false=>
     rw[hp]at C hsn;rw[if_neg (by simp)]at hsn;have HSN:=zH hsn;clear hx hxL hsn hbx hp n0 n1 n2 n3 n4;go_wp2_with fail
     (with_reducible refine C.out.mono ?_)
     rintro e w2 ⟨rfl,hb2⟩;have hlt:wo.heap.size<(wo.alloc (.cells #[.int .i64 (x.1:Int),.int .i64 (x.2.1:Int),.int .i64 (x.2.2.1:Int),.int .i64 0,.string x.2.2.2] 108)).heap.size:=by rw[HSZ.out];omega
     have m0:=(hb2.cell (p:=⟨wo.heap.size,0,none⟩) hlt).trans HNN.out.1;have m1:=(hb2.cell (p:=⟨wo.heap.size,1,none⟩) hlt).trans HNN.out.2.1;have m2:=(hb2.cell (p:=⟨wo.heap.size,2,none⟩) hlt).trans HNN.out.2.2.1;have m3:=(hb2.cell (p:=⟨wo.heap.size,3,none⟩) hlt).trans HNN.out.2.2.2.1;have m4:=(hb2.cell (p:=⟨wo.heap.size,4,none⟩) hlt).trans HNN.out.2.2.2.2;have hbo:Below wo.heap.size wo w2:=HBX.out.trans (hb2.mono (by rw[HSZ.out];omega));have hO2:=zi HOr.out hbo;have HB2:Hid (Below base w w2):=zH (HB.out.trans (hbo.mono (Nat.le_trans HBASE.out HB.out.size)));have hiL:i<L.length:=by rw[HLL.out];omega
     obtain⟨y,hy⟩:∃y,L[i]?=some y:=⟨L[i],List.getElem?_eq_getElem hiL⟩
     obtain⟨bb,ob,hrb,s0,s1,s2,s3,s4⟩:=ke (zF hO2) hy;cases hrb;simp only[Nat.zero_add]at s0 s1 s2 s3 s4;have f0:=World.ownsRow.frozenAt hO2 (i*5);have f1:=World.ownsRow.frozenAt hO2 (i*5+1);have f2:=World.ownsRow.frozenAt hO2 (i*5+2);have f3:=World.ownsRow.frozenAt hO2 (i*5+3);have f4:=World.ownsRow.frozenAt hO2 (i*5+4);have hg:=(hO2.lt g rfl).1;have k0:=World.ownsRow.stored hO2 (i*5) (.int .i64 (x.1:Int));have k1:=World.ownsRow.stored k0.1 (i*5+1) (.int .i64 (x.2.1:Int));have k2:=World.ownsRow.stored k1.1 (i*5+2) (.int .i64 (x.2.2.1:Int));have k3:=World.ownsRow.stored k2.1 (i*5+3) (.int .i64 0);have k4:=World.ownsRow.stored k3.1 (i*5+4) (.string x.2.2.2);have HO5:=zH k4.1;rw[<-jW x hiL]at HO5;have HB5:Hid (Below base w (((((w2.setCell ⟨g,i*5,none⟩ (.int .i64 (x.1:Int))).setCell ⟨g,i*5+1,none⟩ (.int .i64 (x.2.1:Int))).setCell ⟨g,i*5+2,none⟩ (.int .i64 (x.2.2.1:Int))).setCell ⟨g,i*5+3,none⟩ (.int .i64 0)).setCell ⟨g,i*5+4,none⟩ (.string x.2.2.2))):=zH (zk (zk (zk (zk (zk HB2.out hg _) hg _) hg _) hg _) hg _);have i1:(0:Int)<=(i:Int):=by omega
     have i2:(i:Int)<(n:Int):=by omega
     have HIL:=zH hiL;clear hb2 hbo hO2 hy k0 k1 k2 k3 k4 hlt hiL C;go_wp2_with fail
     go_roundw
     case rel=>exact⟨i+1,j+1,L.set i x,by go_num,by go_num,by omega,by omega,zH (by rw[List.length_set];exact HLL.out),zH (by rw[HSN.out,List.length_append,HI.out];rfl),zH (by
      rw[HSN.out,<-HT.out];rw[List.take_succ_eq_append_getElem (by rw[List.length_set];exact HIL.out),List.getElem_set_self]
      congr 1
      rw[List.take_set];rw[List.set_eq_of_length_le (by rw[List.length_take];omega)]),zH (by
      rw[List.drop_set_of_lt (by omega)];rw[<-List.drop_drop,HDR.out,List.drop_drop]),HO5,HB5⟩
     case measure=>simp[intOf];omega
  . obtain rfl:n=j:=by omega
    obtain⟨vs,hclr⟩:=VB (P:=Tryz.prog) wo 39 108 0 _ Tryz.underlying39 Vn 5 rfl (by intro u hu;simp[Value.cells]at hu;rcases hu with rfl|rfl|rfl|rfl|rfl<;>rfl) g (i*5) (n-i) (cap-i) (by omega) (fun q hq=>zdv HOr.out (by omega)) (fun q _=>World.ownsRow.frozenAt HOr.out _);obtain⟨xs2,hx1,hx2,hx3⟩:=jH vs (i*5) wo _ HOr.out;have hsh:=Y1 (i:=i) hx1 (by omega);rw[hx2]at hsh;have hLT:(ze L).take (i*5)=ze (yw p l):=by
     have e:L=L.take i++L.drop i:=(List.take_append_drop i L).symm;have h5:(ze (L.take i)).length=i*5:=by rw[kd,List.length_take,HLL.out,Nat.min_eq_left (by omega)]
     have e2:ze L=ze (L.take i)++ze (L.drop i):=by rw[<-pg,<-e]
     rw[e2,<-h5,List.take_left];rw[HT.out,List.take_of_length_le (by rw[HL.out];exact Nat.le_refl _)]
    rw[hLT]at hsh;have HSH:=zH hsh;have HLEN:Hid ((yw p l).length=i):=zH (by
     have:=HI.out;rw[List.take_of_length_le (by rw[HL.out];exact Nat.le_refl _)]at this;exact this)
    have HBZ:Hid (Below base w (wo.setCells g (i*5) vs)):=zH (HB.out.trans ((Below.refl base wo).grown hx3 (Nat.le_trans HBASE.out HB.out.size) fun q hq=>by cases hq;exact(HOr.out.lt g rfl).1));have hic:i<cap:=by omega
    have hic':(i:Int)<(cap:Int):=by omega
    have hin:(i:Int)<=(n:Int):=by omega
    have hin':i<=n:=by omega
    have hne:¬(cap=i):=by omega
    have i0:(0:Int)<=(i:Int):=by omega
    have hnc:(n:Int)<=(cap:Int):=by omega
    have hicc:(i:Int)<=(cap:Int):=by omega
    clear hx1 hx2 hx3 hsh hLT;go_wp2_with fail
    go_ret
    exact⟨some ⟨g,0,none⟩,cap,by rw[HLEN.out];rfl,by rw[HLEN.out];exact HSH.out,HBZ.out⟩
theorem zc1(x c:Value)(W:World):(callFunc 51 #[x,c]).run Tryz.prog W=.ok (.enter 51 #[x,c]) W:=by kernel_rfl
theorem zc3(c:Value)(p:It->Bool)(l:List It)(n:Nat)(ao:Option Addr)(cap:Nat)(w:World)(hl:l.length=n)(hn:n<=30000000)(hR:Hid (Reads w ao (ze l)))
 (hf:Hid (∀x∈l,∀W,Below w.heap.size w W->Calls Tryz.prog 51 #[itV x,c] W (jS (p x) W))):
 Calls Tryz.prog 82 #[.slice ao n cap,.func (.func 51) #[] #[c]] w (zel p l w):=by
 have HL:=zH hl;have hfn:=zc1;unfold jS at hf;clear hl;go_enter Tryz.func82,Tryz.ntmps82
 go_wp2_with fail
 go_loopw [8] (fun vi wr=>∃k:Nat,vi=.int .i64 k/\k<=n/\Hid (∀(i:Nat) (y:It),i<k->l[i]?=some y->p y=false)/\Hid (Below w.heap.size w wr)) (fun vi _=>n-(intOf vi).toNat)
 case atStart=>exact⟨0,rfl,by omega,zH (by intro j y hj;omega),zH (Below.refl _ _)⟩
 case round=>
  obtain⟨k,rfl,hk,hno,HB⟩:=hrel;obtain⟨wo,rfl⟩:∃wo,wo=wr:=⟨_,rfl⟩
  by_cases hkl:k<n
  . obtain⟨x,hx⟩:∃x,l[k]?=some x:=⟨l[k]'(by rw[HL.out];exact hkl),List.getElem?_eq_getElem _⟩
    obtain⟨b,o,rfl,z0,z1,z2,z3,z4⟩:=ke (hR.out.below HB.out) hx;have HX:=zH hx;have C:=zH (hf.out x (List.mem_of_getElem? hx) wo HB.out);cases hp:p x with
    |true=>
     rw[hp]at C;have HP:=zH hp;clear hx hp;go_wp2_with fail
     (with_reducible refine C.out.mono ?_)
     rintro e w' ⟨rfl,hb⟩;have HB1:=zH (HB.out.trans (hb.mono HB.out.size));clear hb C;go_wp2_with fail
     go_ret
     exact⟨_,rfl,.inl ⟨k,x,HX.out,HP.out,hno.out,rfl⟩,HB1.out⟩
    |false=>
     rw[hp]at C;have HP:=zH hp;clear hx hp;go_wp2_with fail
     (with_reducible refine C.out.mono ?_)
     rintro e w' ⟨rfl,hb⟩;have HB1:=zH (HB.out.trans (hb.mono HB.out.size));clear hb C;go_wp2_with fail
     go_roundw
     case rel=>exact⟨k+1,by go_num,by omega,zH (by
      intro i y hi hy;by_cases he:i=k
      . subst he;rw[HX.out]at hy;cases hy;exact HP.out
      . exact hno.out i y (by omega) hy),HB1⟩
     case measure=>simp[intOf];omega
  . obtain rfl:n=k:=by omega
    go_wp2_with fail
    go_ret
    refine⟨_,rfl,.inr ⟨fun x hx=>?_,rfl⟩,HB.out⟩;obtain⟨j,hj⟩:=List.getElem?_of_mem hx;exact hno.out j x (by have:=(List.getElem?_eq_some_iff.1 hj).1;have:=HL.out;omega) hj
theorem zbP(c:Value)(p:It->Bool)(l:List It)(n:Nat)(ao:Option Addr)(cap base:Nat)(w:World)(hl:l.length=n)(hn:n<=30000000)(ho:w.ownsRow base 108 5 (.slice ao n cap) n (ze l))(hbase:base<=w.heap.size)
 (hf:Hid (∀x∈l,∀W,Below base w W->Calls Tryz.prog 51 #[itV x,c] W (jS (p x) W))):
 Calls Tryz.prog 49 #[.slice ao n cap,.func (.func 51) #[] #[c]] w (Ys base (yw p l) (yw p l).length w):=by
 have HR:=zH (zF ho);have CI:=zH (zc3 c p l n ao cap w hl hn HR (zH fun x hx W hb=>hf.out x hx W (hb.mono hbase)));unfold zel at CI;have HO:=zH ho;have HL:=zH hl;have hfn:=zc1;have HBASE:=zH hbase;clear hl ho hbase;go_enter Tryz.func49,Tryz.ntmps49
 go_wp2_with fail
 (with_reducible refine CI.out.mono ?_)
 rintro e w1 ⟨r,rfl,hr,hb1⟩;have HO1:=zH (zi HO.out hb1);have HB1:=zH (hb1.mono HBASE.out);clear hb1;rcases hr with⟨i0,x0,hx0,hp0,hno,rfl⟩|⟨hall,rfl⟩
 rotate_left
 . have he:yw p l=l:=by
    unfold yw;rw[List.filter_eq_self];intro x hx;rw[hall x hx];rfl
   have HE:=zH he;clear he hall;go_wp2_with fail
   go_ret
   exact⟨ao,cap,by rw[HE.out,HL.out];rfl,by rw[HE.out,HL.out];exact HO1.out,HB1.out⟩
 have hi0:=(List.getElem?_eq_some_iff.1 hx0).1;rw[HL.out]at hi0;obtain⟨g,rfl⟩:∃g,ao=some ⟨g,0,none⟩:=by
  obtain⟨g,c',hv⟩:=yR HO1.out (by
   intro h0;have:=congrArg List.length h0;rw[kd,HL.out]at this;simp at this;omega)
  exact⟨g,by injection hv⟩
 have t0:((i0:Int)== -1)=false:=by rw[beq_eq_false_iff_ne];omega
 have hs0:=jy (p:=p) hx0;rw[if_pos hp0,Zv hno (by rw[HL.out];omega)]at hs0;have HS0:=zH hs0;clear hs0 hno hp0 hx0 CI;go_wp2_with fail
 go_loopw [5,6] (fun vi vj wr=>∃(i j:Nat) (L:List It),vi=.int .i64 i/\vj=.int .i64 j/\i<j/\j<=n/\Hid (L.length=n)/\Hid ((yw p (l.take j)).length=i)/\Hid (L.take i=yw p (l.take j))/\Hid (L.drop j=l.drop j)/\Hid (wr.ownsRow base 108 5 (.slice (some ⟨g,0,none⟩) n cap) n (ze L))/\Hid (Below base w wr)) (fun _ vj _=>n-(intOf vj).toNat)
 case atStart=>exact⟨i0,i0+1,l,rfl,by go_num,by omega,by omega,HL,zH (by rw[HS0.out,List.length_take,HL.out];omega),zH HS0.out.symm,zH rfl,HO1,HB1⟩
 case round=>
  clear HO1 HB1;obtain⟨i,j,L,rfl,rfl,hij,hj,HLL,HI,HT,HDR,HOr,HB⟩:=hrel;obtain⟨wo,rfl⟩:∃wo,wo=wr:=⟨_,rfl⟩
  have hcap:=(Qn HOr.out).1;have hcap2:=(Qn HOr.out).2;by_cases hjn:j<n
  . obtain⟨x,hx⟩:∃x,l[j]?=some x:=⟨l[j]'(by rw[HL.out];exact hjn),List.getElem?_eq_getElem _⟩
    have hxL:=Zw HDR.out hx;obtain⟨ba,oa,hra,z0,z1,z2,z3,z4⟩:=ke (zF HOr.out) hxL;cases hra;simp only[Nat.zero_add]at z0 z1 z2 z3 z4;have hsn:=jy (p:=p) hx;have HX:=zH hx;have hbx:=zc wo (.cells #[.int .i64 (x.1:Int),.int .i64 (x.2.1:Int),.int .i64 (x.2.2.1:Int),.int .i64 0,.string x.2.2.2] 108);have HBX:=zH hbx;have HBw:Hid (Below base w (wo.alloc (.cells #[.int .i64 (x.1:Int),.int .i64 (x.2.1:Int),.int .i64 (x.2.2.1:Int),.int .i64 0,.string x.2.2.2] 108))):=zH (HB.out.trans (hbx.mono (Nat.le_trans HBASE.out HB.out.size)));have C:=zH (hf.out x (List.mem_of_getElem? hx) _ HBw.out);unfold jS at C;have n0:(wo.alloc (.cells #[.int .i64 (x.1:Int),.int .i64 (x.2.1:Int),.int .i64 (x.2.2.1:Int),.int .i64 0,.string x.2.2.2] 108)).cell? ⟨wo.heap.size,0,none⟩=some (.int .i64 (x.1:Int)):=by simp[World.cell?_alloc_new]
    have n1:(wo.alloc (.cells #[.int .i64 (x.1:Int),.int .i64 (x.2.1:Int),.int .i64 (x.2.2.1:Int),.int .i64 0,.string x.2.2.2] 108)).cell? ⟨wo.heap.size,1,none⟩=some (.int .i64 (x.2.1:Int)):=by simp[World.cell?_alloc_new]
    have n2:(wo.alloc (.cells #[.int .i64 (x.1:Int),.int .i64 (x.2.1:Int),.int .i64 (x.2.2.1:Int),.int .i64 0,.string x.2.2.2] 108)).cell? ⟨wo.heap.size,2,none⟩=some (.int .i64 (x.2.2.1:Int)):=by simp[World.cell?_alloc_new]
    have n3:(wo.alloc (.cells #[.int .i64 (x.1:Int),.int .i64 (x.2.1:Int),.int .i64 (x.2.2.1:Int),.int .i64 0,.string x.2.2.2] 108)).cell? ⟨wo.heap.size,3,none⟩=some (.int .i64 0):=by simp[World.cell?_alloc_new]
    have n4:(wo.alloc (.cells #[.int .i64 (x.1:Int),.int .i64 (x.2.1:Int),.int .i64 (x.2.2.1:Int),.int .i64 0,.string x.2.2.2] 108)).cell? ⟨wo.heap.size,4,none⟩=some (.string x.2.2.2):=by simp[World.cell?_alloc_new]
    have HNN:=zH (And.intro n0 (And.intro n1 (And.intro n2 (And.intro n3 n4))));have HSZ:Hid ((wo.alloc (.cells #[.int .i64 (x.1:Int),.int .i64 (x.2.1:Int),.int .i64 (x.2.2.1:Int),.int .i64 0,.string x.2.2.2] 108)).heap.size=wo.heap.size+1):=zH (by simp);cases hp:p x with
    |true=>
     rw[hp]at C hsn;rw[if_pos rfl]at hsn;have HSN:=zH hsn;clear hx hxL hsn hbx hp n0 n1 n2 n3 n4;go_wp2_with fail
     (with_reducible refine C.out.mono ?_)
     rintro e w2 ⟨rfl,hb2⟩;have hbo:Below wo.heap.size wo w2:=HBX.out.trans (hb2.mono (by rw[HSZ.out];omega));have HO2:=zH (zi HOr.out hbo);have HB2:Hid (Below base w w2):=zH (HB.out.trans (hbo.mono (Nat.le_trans HBASE.out HB.out.size)));clear hb2 hbo C;go_wp2_with fail
     go_roundw
     case rel=>exact⟨i,j+1,L,rfl,by go_num,by omega,by omega,HLL,zH (by rw[HSN.out];exact HI.out),zH (by rw[HSN.out];exact HT.out),zH (by rw[<-List.drop_drop,HDR.out,List.drop_drop]),HO2,HB2⟩
     case measure=>simp[intOf];omega
    |false=>
     rw[hp]at C hsn;rw[if_neg (by simp)]at hsn;have HSN:=zH hsn;clear hx hxL hsn hbx hp n0 n1 n2 n3 n4;go_wp2_with fail
     (with_reducible refine C.out.mono ?_)
     rintro e w2 ⟨rfl,hb2⟩;have hlt:wo.heap.size<(wo.alloc (.cells #[.int .i64 (x.1:Int),.int .i64 (x.2.1:Int),.int .i64 (x.2.2.1:Int),.int .i64 0,.string x.2.2.2] 108)).heap.size:=by rw[HSZ.out];omega
     have m0:=(hb2.cell (p:=⟨wo.heap.size,0,none⟩) hlt).trans HNN.out.1;have m1:=(hb2.cell (p:=⟨wo.heap.size,1,none⟩) hlt).trans HNN.out.2.1;have m2:=(hb2.cell (p:=⟨wo.heap.size,2,none⟩) hlt).trans HNN.out.2.2.1;have m3:=(hb2.cell (p:=⟨wo.heap.size,3,none⟩) hlt).trans HNN.out.2.2.2.1;have m4:=(hb2.cell (p:=⟨wo.heap.size,4,none⟩) hlt).trans HNN.out.2.2.2.2;have hbo:Below wo.heap.size wo w2:=HBX.out.trans (hb2.mono (by rw[HSZ.out];omega));have hO2:=zi HOr.out hbo;have HB2:Hid (Below base w w2):=zH (HB.out.trans (hbo.mono (Nat.le_trans HBASE.out HB.out.size)));have hiL:i<L.length:=by rw[HLL.out];omega
     obtain⟨y,hy⟩:∃y,L[i]?=some y:=⟨L[i],List.getElem?_eq_getElem hiL⟩
     obtain⟨bb,ob,hrb,s0,s1,s2,s3,s4⟩:=ke (zF hO2) hy;cases hrb;simp only[Nat.zero_add]at s0 s1 s2 s3 s4;have f0:=World.ownsRow.frozenAt hO2 (i*5);have f1:=World.ownsRow.frozenAt hO2 (i*5+1);have f2:=World.ownsRow.frozenAt hO2 (i*5+2);have f3:=World.ownsRow.frozenAt hO2 (i*5+3);have f4:=World.ownsRow.frozenAt hO2 (i*5+4);have hg:=(hO2.lt g rfl).1;have k0:=World.ownsRow.stored hO2 (i*5) (.int .i64 (x.1:Int));have k1:=World.ownsRow.stored k0.1 (i*5+1) (.int .i64 (x.2.1:Int));have k2:=World.ownsRow.stored k1.1 (i*5+2) (.int .i64 (x.2.2.1:Int));have k3:=World.ownsRow.stored k2.1 (i*5+3) (.int .i64 0);have k4:=World.ownsRow.stored k3.1 (i*5+4) (.string x.2.2.2);have HO5:=zH k4.1;rw[<-jW x hiL]at HO5;have HB5:Hid (Below base w (((((w2.setCell ⟨g,i*5,none⟩ (.int .i64 (x.1:Int))).setCell ⟨g,i*5+1,none⟩ (.int .i64 (x.2.1:Int))).setCell ⟨g,i*5+2,none⟩ (.int .i64 (x.2.2.1:Int))).setCell ⟨g,i*5+3,none⟩ (.int .i64 0)).setCell ⟨g,i*5+4,none⟩ (.string x.2.2.2))):=zH (zk (zk (zk (zk (zk HB2.out hg _) hg _) hg _) hg _) hg _);have i1:(0:Int)<=(i:Int):=by omega
     have i2:(i:Int)<(n:Int):=by omega
     have HIL:=zH hiL;clear hb2 hbo hO2 hy k0 k1 k2 k3 k4 hlt hiL C;go_wp2_with fail
     go_roundw
     case rel=>exact⟨i+1,j+1,L.set i x,by go_num,by go_num,by omega,by omega,zH (by rw[List.length_set];exact HLL.out),zH (by rw[HSN.out,List.length_append,HI.out];rfl),zH (by
      rw[HSN.out,<-HT.out];rw[List.take_succ_eq_append_getElem (by rw[List.length_set];exact HIL.out),List.getElem_set_self]
      congr 1
      rw[List.take_set];rw[List.set_eq_of_length_le (by rw[List.length_take];omega)]),zH (by
      rw[List.drop_set_of_lt (by omega)];rw[<-List.drop_drop,HDR.out,List.drop_drop]),HO5,HB5⟩
     case measure=>simp[intOf];omega
  . obtain rfl:n=j:=by omega
    obtain⟨vs,hclr⟩:=VB (P:=Tryz.prog) wo 39 108 0 _ Tryz.underlying39 Vn 5 rfl (by intro u hu;simp[Value.cells]at hu;rcases hu with rfl|rfl|rfl|rfl|rfl<;>rfl) g (i*5) (n-i) (cap-i) (by omega) (fun q hq=>zdv HOr.out (by omega)) (fun q _=>World.ownsRow.frozenAt HOr.out _);obtain⟨xs2,hx1,hx2,hx3⟩:=jH vs (i*5) wo _ HOr.out;have hsh:=Y1 (i:=i) hx1 (by omega);rw[hx2]at hsh;have hLT:(ze L).take (i*5)=ze (yw p l):=by
     have e:L=L.take i++L.drop i:=(List.take_append_drop i L).symm;have h5:(ze (L.take i)).length=i*5:=by rw[kd,List.length_take,HLL.out,Nat.min_eq_left (by omega)]
     have e2:ze L=ze (L.take i)++ze (L.drop i):=by rw[<-pg,<-e]
     rw[e2,<-h5,List.take_left];rw[HT.out,List.take_of_length_le (by rw[HL.out];exact Nat.le_refl _)]
    rw[hLT]at hsh;have HSH:=zH hsh;have HLEN:Hid ((yw p l).length=i):=zH (by
     have:=HI.out;rw[List.take_of_length_le (by rw[HL.out];exact Nat.le_refl _)]at this;exact this)
    have HBZ:Hid (Below base w (wo.setCells g (i*5) vs)):=zH (HB.out.trans ((Below.refl base wo).grown hx3 (Nat.le_trans HBASE.out HB.out.size) fun q hq=>by cases hq;exact(HOr.out.lt g rfl).1));have hic:i<cap:=by omega
    have hic':(i:Int)<(cap:Int):=by omega
    have hin:(i:Int)<=(n:Int):=by omega
    have hin':i<=n:=by omega
    have hne:¬(cap=i):=by omega
    have i0:(0:Int)<=(i:Int):=by omega
    have hnc:(n:Int)<=(cap:Int):=by omega
    have hicc:(i:Int)<=(cap:Int):=by omega
    clear hx1 hx2 hx3 hsh hLT;go_wp2_with fail
    go_ret
    exact⟨some ⟨g,0,none⟩,cap,by rw[HLEN.out];rfl,by rw[HLEN.out];exact HSH.out,HBZ.out⟩
end Go.Proofs.YtmgfbmkfomebcaaGreatDoor
