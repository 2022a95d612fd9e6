/- Contracts of package hamming and of the reference's words. -/
import Derived.Test.YtmgfbmkfomebcaaGreatDoorRows
import Derived.Test.YtmgfbmkfomebcaaGreatDoorDkM2
set_option linter.unusedVariables false
set_option linter.unusedSimpArgs false
set_option maxHeartbeats 2000000
set_option maxRecDepth 20000
namespace Go.Proofs.YtmgfbmkfomebcaaGreatDoor
open Go.RowKit
theorem ZJ(a:Nat)(ha:a<65536):bits .and .u16 (a:Int) 1=((a%2:Nat):Int):=by
 have:=u16_and_nat a 1 ha (by omega);rw[Nat.and_one_is_mod]at this;exact this
theorem KL(w k:Nat)(hw:w<65536):bits .and .u16 ((w:Int) / 2^k) 1=(hbit w k:Int):=by
 have h1:((w:Int) / 2^k)=((w / 2^k:Nat):Int):=by push_cast;rfl
 rw[h1,ZJ _ (Nat.lt_of_le_of_lt (Nat.div_le_self _ _) hw)];rfl
theorem pe(a:Nat)(w:World)(h1:1<=a)(h2:a<=15):
 Calls Tryz.prog 64 #[.int .i64 a] w fun e w'=>e=.returned (.bool (Jf a))/\w=w':=by
 have e1:bits .and .i64 (a:Int) ((a:Int)-1)=((a &&& (a-1):Nat):Int):=by
  have:=vr a (a-1) (by omega) (by omega);rw[<-this];congr 1;omega
 have hR:Hid (((((a &&& (a-1):Nat)):Int)==0)=Jf a):=by
  show _=_;unfold Jf;rw[Bool.eq_iff_iff];simp
 go_enter Tryz.func64,Tryz.ntmps64
 go_wp2
 go_ret
 exact⟨qi hR.out,rfl⟩
theorem JW(x:Nat)(w:World)(hx:x<65536):
 Calls Tryz.prog 65 #[.int .u16 x] w fun e w'=>e=.returned (.int .i64 (hsum x:Nat))/\w=w':=by
 go_enter Tryz.func65,Tryz.ntmps65
 go_wp2_with fail
 go_loop [3,4] (fun vo va=>∃k o:Nat,va=.int .i64 ((k:Int)+1)/\vo=.int .i64 o/\k<=15/\o<16/\Hid (o=k9 k x)) (fun _ va=>16-(intOf va).toNat)
 case atStart=>exact⟨0,0,rfl,rfl,by omega,by omega,by show _=_;rfl⟩
 case round=>
  obtain⟨k,o,rfl,rfl,hk,ho,hoe⟩:=hrel;by_cases hk15:k<15
  . have e1:=KL x k hx;have t1:((k:Int)+1-1).toNat=k:=by omega
    have e2:bits .xor .i64 (o:Int) ((k:Int)+1)=((o ^^^ (k+1):Nat):Int):=qj o (k+1) (by omega) (by omega);have hox:o ^^^ (k+1)<16:=Nat.xor_lt_two_pow (n:=4) ho (by omega);rcases Qr x k with hb|hb
    . have e3:((hbit x k:Int)==1)=false:=by rw[hb];rfl
      have hn:Hid (o=k9 (k+1) x):=by show _=_;rw[k9,if_neg (by omega)];exact hoe.out
      clear hb;go_wp2_with fail
      go_round
      case rel=>exact⟨k+1,o,by go_num,rfl,by omega,ho,hn⟩
      case measure=>simp[intOf];omega
    . have e3:((hbit x k:Int)==1)=true:=by rw[hb];rfl
      have hn:Hid (o ^^^ (k+1)=k9 (k+1) x):=by show _=_;rw[k9,if_pos hb,<-hoe.out]
      clear hb;go_wp2_with fail
      go_round
      case rel=>exact⟨k+1,o ^^^ (k+1),by go_num,rfl,by omega,hox,hn⟩
      case measure=>simp[intOf];omega
  . obtain rfl:k=15:=by omega
    go_wp2_with fail
    go_ret
    exact⟨by rw[hoe.out];rfl,rfl⟩
theorem Va(x:Nat)(w:World)(hx:x<65536):
 Calls Tryz.prog 45 #[.int .u16 x] w fun e w'=>e=.returned (.bool (decide (hsum x=0)))/\∃n,w'=w.drewN n:=by
 go_enter Tryz.func45,Tryz.ntmps45
 go_wp2_with fail
 go_loopw [3,5] (fun vo va wr=>∃k o:Nat,va=.int .i64 k/\vo=.int .i64 o/\k<=15/\o<16/\Hid (o=k9 k x)/\∃n,wr=w.drewN n) (fun _ va _=>15-(intOf va).toNat)
 case atStart=>exact⟨0,0,rfl,rfl,by omega,by omega,by show _=_;rfl,0,rfl⟩
 case round=>
  obtain⟨k,o,rfl,rfl,hk,ho,hoe,n,rfl⟩:=hrel;by_cases hk15:k<15
  . have e1:=KL x k hx;have hb1:hbit x k<=1:=by have:=Qr x k;omega
    have w1:IntKind.i64.wrap (hbit x k:Int)=hbit x k:=IntWalk.i64_in _ (by omega);obtain⟨m,hm⟩:∃m,(k+1)*hbit x k=m:=⟨_,rfl⟩
    have hm15:m<=15:=by
     have:=Nat.mul_le_mul (show k+1<=15 by omega) hb1;omega
    have e2:((k:Int)+1)*(hbit x k:Int)=(m:Int):=by rw[<-hm];push_cast;rfl
    have e4:=qj o m (by omega) (by omega);have hox:o ^^^ m<16:=Nat.xor_lt_two_pow (n:=4) ho (by omega);have hn:Hid (o ^^^ m=k9 (k+1) x):=by
     show _=_;rw[k9,<-hm,hoe.out];rcases Qr x k with h|h<;>simp[h]
    clear hm;go_wp2_with fail
    go_roundw
    case rel=>exact⟨k+1,o ^^^ m,by go_num,rfl,by omega,hox,hn,_,rfl⟩
    case measure=>simp[intOf];omega
  . obtain rfl:k=15:=by omega
    have hR:Hid (((o:Int)==0)=decide (hsum x=0)):=by
     show _=_;have h1:o=hsum x:=hoe.out;rw[h1,Bool.eq_iff_iff];simp
    go_wp2_with fail
    go_ret
    exact⟨qi hR.out,_,rfl⟩
theorem zfq(k:Nat)(hk:k<15):2^k<=16384:=Nat.le_trans (Nat.pow_le_pow_right (by omega) (show k<=14 by omega)) (by omega)
theorem zbC(k:Nat):((2:Int)^k)=((2^k:Nat):Int):=by rw[Int.natCast_pow];rfl
theorem JX(d:Nat)(w:World)(hd:d<2048):
 Calls Tryz.prog 39 #[.int .u16 d] w fun e w'=>e=.returned (.tuple #[.int .u16 (jY d:Nat),.int .i64 0])/\w=w':=by
 have dd:decide ((2048:Int)<=d)=false:=by simp;omega
 go_enter Tryz.func39,Tryz.ntmps39
 go_wp2_with fail
 go_loop [0,4,5] (fun vd vw va=>∃k x e:Nat,va=.int .i64 ((k:Int)+1)/\vw=.int .u16 x/\vd=.int .u16 e/\k<=15/\x<32768/\e<65536/\Hid (ZQ k d=(x,e))) (fun _ _ va=>16-(intOf va).toNat)
 case atStart=>exact⟨0,0,d,rfl,rfl,rfl,by omega,by omega,by omega,by show _=_;rfl⟩
 case round=>
  obtain⟨k,x,e,rfl,rfl,rfl,hk,hx,he,hpe⟩:=hrel;by_cases hk15:k<15
  . cases hpb:Jf (k+1)with
    |true=>
     have hn:Hid (ZQ (k+1) d=(x,e)):=by show _=_;simp only[ZQ];rw[if_pos hpb];exact hpe.out
     have HP:=zH hpb;clear hpb;have cp:=zH (fun W=>pe (k+1) W (by omega) (by omega));go_wp2_with (go_at_call 64;refine(cp.out _).mono ?_;rw[HP.out];rintro e w' ⟨rfl,rfl⟩)
     go_round
     case rel=>exact⟨k+1,x,e,by go_num,rfl,rfl,by omega,hx,he,hn⟩
     case measure=>simp[intOf];omega
    |false=>
     have hp14:=zfq k hk15;have e1:=ZJ e he;have t1:((k:Int)+1-1).toNat=k:=by omega
     obtain⟨S,hS⟩:∃S,e%2*2^k=S:=⟨_,rfl⟩
     have hS1:S<=16384:=by
      have:=Nat.mul_le_mul (show e%2<=1 by omega) hp14;omega
     have e2:IntKind.u16.wrap (((e:Int)%2)*2^k)=(S:Int):=by
      have h1:((e:Int)%2)*2^k=(S:Int):=by rw[<-hS,zbC];push_cast;rfl
      rw[h1];exact IntWalk.u16_in _ (by omega)
     have e3:=u16_or_nat x S (by omega) (by omega);have hxS:x ||| S<32768:=Nat.or_lt_two_pow (n:=15) (by omega) (by omega)
     have hn:Hid (ZQ (k+1) d=(x ||| S,e / 2)):=by
      show _=_;have h1:=hpe.out;simp only[ZQ];rw[if_neg (by rw[hpb];simp),h1,<-hS]
     have HP:=zH hpb;have cp:=zH (fun W=>pe (k+1) W (by omega) (by omega));clear hpb hS hp14;go_wp2_with (go_at_call 64;refine(cp.out _).mono ?_;rw[HP.out];rintro e w' ⟨rfl,rfl⟩)
     go_round
     case rel=>exact⟨k+1,x ||| S,e / 2,by go_num,by go_num,by go_num,by omega,hxS,by omega,hn⟩
     case measure=>simp[intOf];omega
  . obtain rfl:k=15:=by omega
    have hX:Hid (x=(ZQ 15 d).1):=by show _=_;rw[hpe.out]
    have hsl:=zdh 15 x (by omega);obtain⟨s,hs⟩:∃s,hsum x=s:=⟨_,rfl⟩
    have hs16:s<16:=by rw[<-hs];exact hsl
    have HS:=zH hs;have cs:=zH (fun W=>by have:=JW x W (by omega);rw[hs]at this;exact this);clear hs hsl;go_wp2_with (go_at_call 65;refine(cs.out _).mono ?_;rintro e w' ⟨rfl,rfl⟩)
    go_loop [4,7] (fun vw va=>∃j y:Nat,va=.int .i64 (2^j:Nat)/\vw=.int .u16 y/\j<=4/\y<32768/\Hid (y=vI j s x)) (fun _ va=>16-(intOf va).toNat)
    case atStart=>exact⟨0,x,rfl,rfl,by omega,hx,by show _=_;rfl⟩
    case round=>
     obtain⟨j,y,rfl,rfl,hj,hy,hye⟩:=hrel;by_cases hj4:j<4
     . have hjj:j=0\/j=1\/j=2\/j=3:=by omega
       rcases hjj with rfl|rfl|rfl|rfl
       . have eA:bits .and .i64 (s:Int) 1=((s &&& 1:Nat):Int):=vr s 1 (by omega) (by omega);have eO:bits .or .u16 (y:Int) 1=((y ||| 1:Nat):Int):=u16_or_nat y 1 (by omega) (by omega);have hyo:y ||| 1<32768:=Nat.or_lt_two_pow (n:=15) (by omega) (by omega)
         by_cases ht:s &&& 1=0
         . have hb:((s:Int)%2 !=0)=false:=by rw[Nat.and_one_is_mod]at ht;simp;omega
           have hn:Hid (y=vI 1 s x):=by
            show _=_;simp only[vI];rw[if_neg (by simpa using ht)];exact hye.out
           clear ht;go_wp2_with fail
           go_round
           case rel=>exact⟨1,y,by go_num,rfl,by omega,hy,hn⟩
           case measure=>simp[intOf]
         . have hb:((s:Int)%2 !=0)=true:=by rw[Nat.and_one_is_mod]at ht;simp;omega
           have hn:Hid (y ||| 1=vI 1 s x):=by
            show _=_;have h1:vI 1 s x=if s &&& 2^0≠0 then vI 0 s x ||| 2^(2^0-1) else vI 0 s x:=rfl
            rw[h1,if_pos (by simpa using ht),<-hye.out]
           clear ht;go_wp2_with fail
           go_round
           case rel=>exact⟨1,y ||| 1,by go_num,rfl,by omega,hyo,hn⟩
           case measure=>simp[intOf]
       . have eA:bits .and .i64 (s:Int) 2=((s &&& 2:Nat):Int):=vr s 2 (by omega) (by omega);have eO:bits .or .u16 (y:Int) 2=((y ||| 2:Nat):Int):=u16_or_nat y 2 (by omega) (by omega);have hyo:y ||| 2<32768:=Nat.or_lt_two_pow (n:=15) (by omega) (by omega)
         by_cases ht:s &&& 2=0
         . have hb:(((s &&& 2:Nat):Int)!=0)=false:=by rw[ht];rfl
           have hn:Hid (y=vI 2 s x):=by
            show _=_;simp only[vI];rw[if_neg (by simpa using ht)];exact hye.out
           clear ht;go_wp2_with fail
           go_round
           case rel=>exact⟨2,y,by go_num,rfl,by omega,hy,hn⟩
           case measure=>simp[intOf]
         . have hb:(((s &&& 2:Nat):Int)!=0)=true:=by simp;omega
           have hn:Hid (y ||| 2=vI 2 s x):=by
            show _=_;have h1:vI 2 s x=if s &&& 2^1≠0 then vI 1 s x ||| 2^(2^1-1) else vI 1 s x:=rfl
            rw[h1,if_pos (by simpa using ht),<-hye.out]
           clear ht;go_wp2_with fail
           go_round
           case rel=>exact⟨2,y ||| 2,by go_num,rfl,by omega,hyo,hn⟩
           case measure=>simp[intOf]
       . have eA:bits .and .i64 (s:Int) 4=((s &&& 4:Nat):Int):=vr s 4 (by omega) (by omega);have eO:bits .or .u16 (y:Int) 8=((y ||| 8:Nat):Int):=u16_or_nat y 8 (by omega) (by omega);have hyo:y ||| 8<32768:=Nat.or_lt_two_pow (n:=15) (by omega) (by omega)
         by_cases ht:s &&& 4=0
         . have hb:(((s &&& 4:Nat):Int)!=0)=false:=by rw[ht];rfl
           have hn:Hid (y=vI 3 s x):=by
            show _=_;simp only[vI];rw[if_neg (by simpa using ht)];exact hye.out
           clear ht;go_wp2_with fail
           go_round
           case rel=>exact⟨3,y,by go_num,rfl,by omega,hy,hn⟩
           case measure=>simp[intOf]
         . have hb:(((s &&& 4:Nat):Int)!=0)=true:=by simp;omega
           have hn:Hid (y ||| 8=vI 3 s x):=by
            show _=_;have h1:vI 3 s x=if s &&& 2^2≠0 then vI 2 s x ||| 2^(2^2-1) else vI 2 s x:=rfl
            rw[h1,if_pos (by simpa using ht),<-hye.out]
           clear ht;go_wp2_with fail
           go_round
           case rel=>exact⟨3,y ||| 8,by go_num,rfl,by omega,hyo,hn⟩
           case measure=>simp[intOf]
       . have eA:bits .and .i64 (s:Int) 8=((s &&& 8:Nat):Int):=vr s 8 (by omega) (by omega);have eO:bits .or .u16 (y:Int) 128=((y ||| 128:Nat):Int):=u16_or_nat y 128 (by omega) (by omega);have hyo:y ||| 128<32768:=Nat.or_lt_two_pow (n:=15) (by omega) (by omega)
         by_cases ht:s &&& 8=0
         . have hb:(((s &&& 8:Nat):Int)!=0)=false:=by rw[ht];rfl
           have hn:Hid (y=vI 4 s x):=by
            show _=_;simp only[vI];rw[if_neg (by simpa using ht)];exact hye.out
           clear ht;go_wp2_with fail
           go_round
           case rel=>exact⟨4,y,by go_num,rfl,by omega,hy,hn⟩
           case measure=>simp[intOf]
         . have hb:(((s &&& 8:Nat):Int)!=0)=true:=by simp;omega
           have hn:Hid (y ||| 128=vI 4 s x):=by
            show _=_;have h1:vI 4 s x=if s &&& 2^3≠0 then vI 3 s x ||| 2^(2^3-1) else vI 3 s x:=rfl
            rw[h1,if_pos (by simpa using ht),<-hye.out]
           clear ht;go_wp2_with fail
           go_round
           case rel=>exact⟨4,y ||| 128,by go_num,rfl,by omega,hyo,hn⟩
           case measure=>simp[intOf]
     . obtain rfl:j=4:=by omega
       have hfin:Hid (y=jY d):=by
        show _=_;rw[hye.out];unfold jY;rw[<-hX.out,HS.out]
       go_wp2_with fail
       go_ret2
       exact⟨by rw[hfin.out];rfl,rfl⟩
theorem Z6(d:Nat)(w:World)(hd:2048<=d):
 Calls Tryz.prog 39 #[.int .u16 d] w fun e w'=>e=.returned (.tuple #[.int .u16 0,.int .i64 1])/\w=w':=by
 go_enter Tryz.func39,Tryz.ntmps39
 go_wp2_with fail
 go_ret2
 exact⟨rfl,rfl⟩
end Go.Proofs.YtmgfbmkfomebcaaGreatDoor
