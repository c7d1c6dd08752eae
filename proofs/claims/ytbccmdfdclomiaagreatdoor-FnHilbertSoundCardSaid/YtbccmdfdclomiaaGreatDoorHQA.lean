import Derived.Test.YtbccmdfdclomiaaGreatDoorHAF
import Derived.Laws.Bits64
/- own -/
namespace Go.Proofs.YtbccmdfdclomiaaGreatDoor
set_option maxRecDepth 20000
open Go.RowKit
theorem Src.aboveL {w w':World} {B:Nat} {S:Nat→Prop} (h:Src w B) (k:Touch w w' S) (hS:∀ i,S i→B<i):Src w' B:=by
 obtain ⟨v,n,x,hh,c0,c1,c2,f1,f2,ty,hx,p,cap,e,q1,q2,q3⟩:=h;have hBl:B<w.heap.size:=World.block_lt_of_cell? _ _ c0;have kc:=k.cell hBl (fun e=>by have:=hS _ e;omega);refine ⟨v,n,x,hh,by rw [kc.1];exact c0,by rw [kc.1];exact c1,by rw [kc.1];exact c2,by rw [kc.2];exact f1,by rw [kc.2];exact f2,ty.touch k (fun e=>by have:=hS _ e;omega),hx,p,cap,e,q1,q2,fun j hj=>?_⟩;obtain ⟨b',off,y,e2,hc,hy,hb⟩:=q3 j hj;exact ⟨b',off,y,e2,by rw [(k.cell (b:=b') (World.block_lt_of_cell? _ _ hc) (fun e=>absurd (hS _ e) (by omega))).1];exact hc,hy,hb⟩
def DrL (B b:Nat) (w w':World):Prop:=Touch w w' (fun i=>i=B∨b≤i)∧Src w' B
theorem DrL.refl {B:Nat} {w:World} (b:Nat) (h:Src w B):DrL B b w w:=⟨Touch.refl _ _,h⟩
theorem DrL.dr {B b:Nat} {w w1 w2:World} (h:DrL B b w w1) (k:Dr B w1 w2):DrL B b w w2:=⟨h.1.trans (k.1.mono (fun _i e=>.inl e)),k.2⟩
theorem DrL.keeps {B b:Nat} {w w1 w2:World} (h:DrL B b w w1) (k:Keeps w1 w2):DrL B b w w2:=⟨h.1.trans (Touch.of_keeps k _),h.2.keeps k⟩
theorem DrL.touch {B b:Nat} {w w1 w2:World} {S:Nat→Prop} (h:DrL B b w w1) (k:Touch w1 w2 S) (hS:∀ i,S i→b≤i) (hB:B<b):DrL B b w w2:=
 ⟨h.1.trans (k.mono (fun i e=>.inr (hS i e))),h.2.aboveL k (fun i e=>Nat.lt_of_lt_of_le hB (hS i e))⟩
theorem DrL.size {B b:Nat} {w w1:World} (h:DrL B b w w1):w.heap.size≤w1.heap.size:=h.1.size
set_option maxHeartbeats 2000000 in
theorem l13System_any (B:Nat) (w:World) (hs:Src w B):Calls Tryz.prog 79 #[.pointer (some ⟨B,0,none⟩)] w fun e w'=>(∃ k,k≤12∧e=.returned (.string (syS k)))∧Dr B w w':=by
 have HN:=hid (fun wz (h:Src wz B)=>l01Next_any 30 B wz h (by omega));have HN3:=hid (fun wz (h:Src wz B)=>l01Next_any 3 B wz h (by omega));have HN10:=hid (fun wz (h:Src wz B)=>l01Next_any 10 B wz h (by omega));go_enter Tryz.func79,Tryz.ntmps79;go_wp2_with fail;refine (HN.out _ hs).mono ?_;rintro e w2 ⟨r,rfl,-,d2⟩
 by_cases h0:r=0
 ·subst h0
  have kA:=(Keeps.refl w2).alloc (.cells #[.string ⟨#[]⟩,.string ⟨#[105,110,116]⟩,.string ⟨#[71,114,122]⟩] 9)
  have hsz:(w2.alloc (.cells #[.string ⟨#[]⟩,.string ⟨#[105,110,116]⟩,.string ⟨#[71,114,122]⟩] 9)).heap.size=w2.heap.size+1:=by simp
  have hsB:B<w2.heap.size:=d2.2.lt
  have c0:(w2.alloc (.cells #[.string ⟨#[]⟩,.string ⟨#[105,110,116]⟩,.string ⟨#[71,114,122]⟩] 9)).cell? ⟨w2.heap.size,0,none⟩=some (.string ⟨#[]⟩):=by simp
  have c1:(w2.alloc (.cells #[.string ⟨#[]⟩,.string ⟨#[105,110,116]⟩,.string ⟨#[71,114,122]⟩] 9)).cell? ⟨w2.heap.size,1,none⟩=some (.string ⟨#[105,110,116]⟩):=by simp
  have c2:(w2.alloc (.cells #[.string ⟨#[]⟩,.string ⟨#[105,110,116]⟩,.string ⟨#[71,114,122]⟩] 9)).cell? ⟨w2.heap.size,2,none⟩=some (.string ⟨#[71,114,122]⟩):=by simp
  have HD2:=hid d2;clear d2;go_wp2_with fail;have HKA:=hid kA;clear kA;generalize w2.alloc (.cells #[.string ⟨#[]⟩,.string ⟨#[105,110,116]⟩,.string ⟨#[71,114,122]⟩] 9)=wA at*;refine (HN3.out _ (HD2.out.2.keeps HKA.out)).mono ?_;rintro e w3 ⟨r3,rfl,hr3,d3⟩;have D3:=hid ((HD2.out.keeps HKA.out).trans d3)
  have hr9:r3<3:=by omega
  have hcell:∀ j x,wA.cell? ⟨w2.heap.size,j,none⟩=some x→w3.cell? ⟨w2.heap.size,j,none⟩=some x:=fun j x h=>by
   rw [(d3.1.cell (by omega) (show ¬w2.heap.size=B by omega)).1];exact h
  replace c0:=hcell _ _ c0
  replace c1:=hcell _ _ c1
  replace c2:=hcell _ _ c2
  clear hcell d3 hr3
  have hrr:r3=0∨r3=1∨r3=2:=by omega
  clear hr9
  rcases hrr with rfl | rfl | rfl
  ·go_wp2_with fail
   go_ret;exact ⟨⟨10,by omega,by rfl⟩,D3.out⟩
  ·go_wp2_with fail
   go_ret;exact ⟨⟨11,by omega,by rfl⟩,D3.out⟩
  ·go_wp2_with fail
   go_ret;exact ⟨⟨12,by omega,by rfl⟩,D3.out⟩
 ·have h0':((r:Int)==0)=false:=beq_eq_false_iff_ne.2 (by omega)
  clear h0;have kA:=(Keeps.refl w2).alloc (.cells #[.string ⟨#[73,110,116]⟩,.string ⟨#[67,76]⟩,.string ⟨#[75]⟩,.string ⟨#[68]⟩,.string ⟨#[84]⟩,.string ⟨#[75,52]⟩,.string ⟨#[83,52]⟩,.string ⟨#[83,53]⟩,.string ⟨#[75,66]⟩,.string ⟨#[71,76]⟩] 9)
  have hsz:(w2.alloc (.cells #[.string ⟨#[73,110,116]⟩,.string ⟨#[67,76]⟩,.string ⟨#[75]⟩,.string ⟨#[68]⟩,.string ⟨#[84]⟩,.string ⟨#[75,52]⟩,.string ⟨#[83,52]⟩,.string ⟨#[83,53]⟩,.string ⟨#[75,66]⟩,.string ⟨#[71,76]⟩] 9)).heap.size=w2.heap.size+1:=by simp
  have hsB:B<w2.heap.size:=d2.2.lt
  have c0:(w2.alloc (.cells #[.string ⟨#[73,110,116]⟩,.string ⟨#[67,76]⟩,.string ⟨#[75]⟩,.string ⟨#[68]⟩,.string ⟨#[84]⟩,.string ⟨#[75,52]⟩,.string ⟨#[83,52]⟩,.string ⟨#[83,53]⟩,.string ⟨#[75,66]⟩,.string ⟨#[71,76]⟩] 9)).cell? ⟨w2.heap.size,0,none⟩=some (.string ⟨#[73,110,116]⟩):=by simp
  have c1:(w2.alloc (.cells #[.string ⟨#[73,110,116]⟩,.string ⟨#[67,76]⟩,.string ⟨#[75]⟩,.string ⟨#[68]⟩,.string ⟨#[84]⟩,.string ⟨#[75,52]⟩,.string ⟨#[83,52]⟩,.string ⟨#[83,53]⟩,.string ⟨#[75,66]⟩,.string ⟨#[71,76]⟩] 9)).cell? ⟨w2.heap.size,1,none⟩=some (.string ⟨#[67,76]⟩):=by simp
  have c2:(w2.alloc (.cells #[.string ⟨#[73,110,116]⟩,.string ⟨#[67,76]⟩,.string ⟨#[75]⟩,.string ⟨#[68]⟩,.string ⟨#[84]⟩,.string ⟨#[75,52]⟩,.string ⟨#[83,52]⟩,.string ⟨#[83,53]⟩,.string ⟨#[75,66]⟩,.string ⟨#[71,76]⟩] 9)).cell? ⟨w2.heap.size,2,none⟩=some (.string ⟨#[75]⟩):=by simp
  have c3:(w2.alloc (.cells #[.string ⟨#[73,110,116]⟩,.string ⟨#[67,76]⟩,.string ⟨#[75]⟩,.string ⟨#[68]⟩,.string ⟨#[84]⟩,.string ⟨#[75,52]⟩,.string ⟨#[83,52]⟩,.string ⟨#[83,53]⟩,.string ⟨#[75,66]⟩,.string ⟨#[71,76]⟩] 9)).cell? ⟨w2.heap.size,3,none⟩=some (.string ⟨#[68]⟩):=by simp
  have c4:(w2.alloc (.cells #[.string ⟨#[73,110,116]⟩,.string ⟨#[67,76]⟩,.string ⟨#[75]⟩,.string ⟨#[68]⟩,.string ⟨#[84]⟩,.string ⟨#[75,52]⟩,.string ⟨#[83,52]⟩,.string ⟨#[83,53]⟩,.string ⟨#[75,66]⟩,.string ⟨#[71,76]⟩] 9)).cell? ⟨w2.heap.size,4,none⟩=some (.string ⟨#[84]⟩):=by simp
  have c5:(w2.alloc (.cells #[.string ⟨#[73,110,116]⟩,.string ⟨#[67,76]⟩,.string ⟨#[75]⟩,.string ⟨#[68]⟩,.string ⟨#[84]⟩,.string ⟨#[75,52]⟩,.string ⟨#[83,52]⟩,.string ⟨#[83,53]⟩,.string ⟨#[75,66]⟩,.string ⟨#[71,76]⟩] 9)).cell? ⟨w2.heap.size,5,none⟩=some (.string ⟨#[75,52]⟩):=by simp
  have c6:(w2.alloc (.cells #[.string ⟨#[73,110,116]⟩,.string ⟨#[67,76]⟩,.string ⟨#[75]⟩,.string ⟨#[68]⟩,.string ⟨#[84]⟩,.string ⟨#[75,52]⟩,.string ⟨#[83,52]⟩,.string ⟨#[83,53]⟩,.string ⟨#[75,66]⟩,.string ⟨#[71,76]⟩] 9)).cell? ⟨w2.heap.size,6,none⟩=some (.string ⟨#[83,52]⟩):=by simp
  have c7:(w2.alloc (.cells #[.string ⟨#[73,110,116]⟩,.string ⟨#[67,76]⟩,.string ⟨#[75]⟩,.string ⟨#[68]⟩,.string ⟨#[84]⟩,.string ⟨#[75,52]⟩,.string ⟨#[83,52]⟩,.string ⟨#[83,53]⟩,.string ⟨#[75,66]⟩,.string ⟨#[71,76]⟩] 9)).cell? ⟨w2.heap.size,7,none⟩=some (.string ⟨#[83,53]⟩):=by simp
  have c8:(w2.alloc (.cells #[.string ⟨#[73,110,116]⟩,.string ⟨#[67,76]⟩,.string ⟨#[75]⟩,.string ⟨#[68]⟩,.string ⟨#[84]⟩,.string ⟨#[75,52]⟩,.string ⟨#[83,52]⟩,.string ⟨#[83,53]⟩,.string ⟨#[75,66]⟩,.string ⟨#[71,76]⟩] 9)).cell? ⟨w2.heap.size,8,none⟩=some (.string ⟨#[75,66]⟩):=by simp
  have c9:(w2.alloc (.cells #[.string ⟨#[73,110,116]⟩,.string ⟨#[67,76]⟩,.string ⟨#[75]⟩,.string ⟨#[68]⟩,.string ⟨#[84]⟩,.string ⟨#[75,52]⟩,.string ⟨#[83,52]⟩,.string ⟨#[83,53]⟩,.string ⟨#[75,66]⟩,.string ⟨#[71,76]⟩] 9)).cell? ⟨w2.heap.size,9,none⟩=some (.string ⟨#[71,76]⟩):=by simp
  have HD2:=hid d2;clear d2;go_wp2_with fail;have HKA:=hid kA;clear kA;generalize w2.alloc (.cells #[.string ⟨#[73,110,116]⟩,.string ⟨#[67,76]⟩,.string ⟨#[75]⟩,.string ⟨#[68]⟩,.string ⟨#[84]⟩,.string ⟨#[75,52]⟩,.string ⟨#[83,52]⟩,.string ⟨#[83,53]⟩,.string ⟨#[75,66]⟩,.string ⟨#[71,76]⟩] 9)=wA at*;refine (HN10.out _ (HD2.out.2.keeps HKA.out)).mono ?_;rintro e w3 ⟨r3,rfl,hr3,d3⟩;have D3:=hid ((HD2.out.keeps HKA.out).trans d3)
  have hr9:r3<10:=by omega
  have hcell:∀ j x,wA.cell? ⟨w2.heap.size,j,none⟩=some x→w3.cell? ⟨w2.heap.size,j,none⟩=some x:=fun j x h=>by
   rw [(d3.1.cell (by omega) (show ¬w2.heap.size=B by omega)).1];exact h
  replace c0:=hcell _ _ c0
  replace c1:=hcell _ _ c1
  replace c2:=hcell _ _ c2
  replace c3:=hcell _ _ c3
  replace c4:=hcell _ _ c4
  replace c5:=hcell _ _ c5
  replace c6:=hcell _ _ c6
  replace c7:=hcell _ _ c7
  replace c8:=hcell _ _ c8
  replace c9:=hcell _ _ c9
  clear hcell d3 hr3
  have hrr:r3=0∨r3=1∨r3=2∨r3=3∨r3=4∨r3=5∨r3=6∨r3=7∨r3=8∨r3=9:=by omega
  clear hr9
  rcases hrr with rfl | rfl | rfl | rfl | rfl | rfl | rfl | rfl | rfl | rfl
  ·go_wp2_with fail
   go_ret;exact ⟨⟨8,by omega,by rfl⟩,D3.out⟩
  ·go_wp2_with fail
   go_ret;exact ⟨⟨9,by omega,by rfl⟩,D3.out⟩
  ·go_wp2_with fail
   go_ret;exact ⟨⟨0,by omega,by rfl⟩,D3.out⟩
  ·go_wp2_with fail
   go_ret;exact ⟨⟨1,by omega,by rfl⟩,D3.out⟩
  ·go_wp2_with fail
   go_ret;exact ⟨⟨2,by omega,by rfl⟩,D3.out⟩
  ·go_wp2_with fail
   go_ret;exact ⟨⟨3,by omega,by rfl⟩,D3.out⟩
  ·go_wp2_with fail
   go_ret;exact ⟨⟨4,by omega,by rfl⟩,D3.out⟩
  ·go_wp2_with fail
   go_ret;exact ⟨⟨6,by omega,by rfl⟩,D3.out⟩
  ·go_wp2_with fail
   go_ret;exact ⟨⟨7,by omega,by rfl⟩,D3.out⟩
  ·go_wp2_with fail
   go_ret;exact ⟨⟨5,by omega,by rfl⟩,D3.out⟩
theorem l13Small_any (B:Nat) (m:Bool) (w:World) (hs:Src w B):Calls Tryz.prog 80 #[.pointer (some ⟨B,0,none⟩),.bool m] w (DrawN B 3 w):=by
 have HN:=hid (l01Next_any 3 B w hs (by omega));have HD:=hid (fun (n:Nat) (hn:n≤3) wz (h:Src wz B)=>l02Draw_any B 3 (by omega) m n (by omega) wz h);go_enter Tryz.func80,Tryz.ntmps80;go_wp2_with fail;refine HN.out.mono ?_;rintro e w2 ⟨r,rfl,hr,d2⟩
 have hr2:1+r≤3:=by omega
 have hw1:(1:Int)+(r:Int)=((1+r:Nat):Int):=by omega
 have HD2:=hid (HD.out (1+r) hr2 w2 d2.2);rw [←hw1] at HD2;clear hw1 HD HN;go_wp2_with fail;refine HD2.out.mono ?_;rintro e w3 ⟨v,t,rfl,hv,hl,d3⟩;go_wp2_with fail;go_ret;exact ⟨v,t,rfl,hv.mono d2.size,by omega,d2.trans d3⟩
theorem l13Imply_any (a b:List Nd) (va vb:Value) (w:World) (hva:Nds w va a) (hvb:Nds w vb b) (hl:1+a.length+b.length≤2147483648):Calls Tryz.prog 64 #[va,vb] w (RetN w (⟨4,0⟩::(a++b))):=by
 have H:=hid (l02Pair_any 4 a b va vb w hva hvb hl);clear hva hvb;go_enter Tryz.func64,Tryz.ntmps64;go_wp2_with fail;refine H.out.mono ?_;rintro e w2 ⟨v,rfl,hv,k2⟩;go_wp2_with fail;go_ret;exact ⟨v,rfl,hv,k2⟩
theorem l13Put_any (b:Nat) (r f s:Int) (ls:List Ln) (a:List Nd) (v u:Value) (w:World) (hv:LnO w b v ls) (hu:Nds w u a) (hb:b≤w.heap.size) (hl:ls.length≤1000) (ha:a.length≤1000):
  Calls Tryz.prog 82 #[v,.int .i64 r,.int .i64 f,.int .i64 s,u] w fun e w'=>∃ v',e=.returned (.tuple #[v',.int .i64 ls.length])∧LnO w' b v' (ls++[⟨r,f,s,a⟩])∧∃ w1,Keeps w w1∧LnTouch b w1 w':=by
 have HO:=hid (l02Own_any a u w hu (by omega));have HV:=hid (fun wz (kz:Keeps w wz)=>hv.keeps kz);obtain ⟨p,c,rfl,h1,h2⟩:=hv.sh;unfold maxLen at h2;clear hv hu;go_enter Tryz.func82,Tryz.ntmps82;go_wp2_with fail;refine HO.out.mono ?_;rintro e w2 ⟨u2,rfl,hu2,k2⟩;obtain ⟨p2,n2,c2,rfl⟩:=hu2.own_shape;have hbz:=hid (Nat.le_trans hb k2.size);have hu3:=hu2.mono hb;clear hu2
 go_wp2_with (at_builtin;refine appLn rfl _ _ rfl b _ ls rfl (HV.out _ (k2.alloc _)) _ 1 ⟨r,f,s,a⟩ (.slice p2 n2 c2) rfl (At.lit4 _ _ _ _ _ _) (hu3.keeps ((Keeps.refl w2).alloc _)) (Nat.le_trans hbz.out ((Keeps.refl w2).alloc _).size) (by omega) ?_;intro v5 w5 hv5 ht5)
 go_ret2
 exact ⟨v5,rfl,hv5,_,k2.alloc _,ht5⟩
def OutSt (xs zs:List Int) (i:Nat):Prop:=zs.Perm xs∧(zs.take i).Pairwise (· ≤ ·)
def InsSt (xs zs:List Int) (i j:Nat):Prop:=zs.Perm xs∧∃ P x S R,zs=P++x::(S++R)∧P.length=j∧j+S.length=i∧(P++S).Pairwise (· ≤ ·)∧∀ s∈S,x≤s
theorem OutSt.start (xs:List Int):OutSt xs xs 1:=⟨List.Perm.refl _,by cases xs<;>simp⟩
theorem OutSt.inner {xs zs:List Int} {i:Nat} (h:OutSt xs zs i) (hi:i<zs.length):InsSt xs zs i i:=by
 refine ⟨h.1,zs.take i,zs[i],[],zs.drop (i+1),?_,by simp;omega,by simp,by simpa using h.2,by simp⟩;rw [List.nil_append,←List.drop_eq_getElem_cons hi,List.take_append_drop]
theorem InsSt.at {xs zs:List Int} {i j:Nat} (h:InsSt xs zs i j):j≤i∧i<zs.length∧zs.length=xs.length:=by
 obtain ⟨hp,P,x,S,R,rfl,h1,h2,_⟩:=h;refine ⟨by omega,by simp;omega,hp.length_eq⟩
theorem InsSt.step {xs zs:List Int} {i j:Nat} (h:InsSt xs zs i j) (hj:0<j) (h1:j<zs.length) (hlt:zs[j]<zs[j-1]):InsSt xs ((zs.set j zs[j-1]).set (j-1) zs[j]) i (j-1):=by
 obtain ⟨hp,P,x,S,R,rfl,hl,hs,hw,hx⟩:=h
 obtain ⟨P',p,rfl⟩:∃ P' p,P=P'++[p]:=⟨P.dropLast,P.getLast (by intro e;simp [e] at hl;omega),(List.dropLast_concat_getLast _).symm⟩
 have hl':j=P'.length+1:=by simpa using hl.symm
 subst hl'
 have e1:(P'++[p]++x::(S++R))[P'.length+1]=x:=by simp
 have e2:(P'++[p]++x::(S++R))[P'.length+1-1]=p:=by simp
 rw [e1,e2] at hlt ⊢
 have e3:((P'++[p]++x::(S++R)).set (P'.length+1) p).set (P'.length+1-1) x=P'++x::((p::S)++R):=by
  simp [List.append_assoc]
 rw [e3];refine ⟨?_,P',x,p::S,R,rfl,by simp,by simp;omega,by simpa using hw,?_⟩
 ·refine List.Perm.trans ?_ hp
  simp only [List.append_assoc,List.cons_append,List.nil_append];exact List.Perm.append_left _ (List.Perm.swap ..)
 ·intro s hs'
  rcases List.mem_cons.1 hs' with rfl | hs'
  ·omega
  ·exact hx s hs'
theorem InsSt.stop {xs zs:List Int} {i j:Nat} (h:InsSt xs zs i j) (hj:j=0∨∃ h1:j<zs.length,¬zs[j]<zs[j-1]):OutSt xs zs (i+1):=by
 obtain ⟨hp,P,x,S,R,rfl,hl,hs,hw,hx⟩:=h;refine ⟨hp,?_⟩
 have e:(P++x::(S++R)).take (i+1)=P++x::S:=by
  rw [show P++x::(S++R)=(P++x::S)++R by simp,List.take_append_of_le_length (by simp;omega),List.take_of_length_le (by simp;omega)]
 rw [e];rw [List.pairwise_append] at hw ⊢;refine ⟨hw.1,List.pairwise_cons.2 ⟨hx,hw.2.1⟩,fun a ha b hb=>?_⟩
 rcases List.mem_cons.1 hb with rfl | hb
 ·rcases hj with rfl | ⟨h1,hn⟩
  ·rw [List.eq_nil_of_length_eq_zero hl] at ha;cases ha
  ·obtain ⟨P',p,rfl⟩:∃ P' p,P=P'++[p]:=⟨P.dropLast,P.getLast (by intro e;simp [e] at ha),(List.dropLast_concat_getLast _).symm⟩
   have hl':j=P'.length+1:=by simpa using hl.symm
   subst hl'
   have e1:(P'++[p]++b::(S++R))[P'.length+1]=b:=by simp
   have e2:(P'++[p]++b::(S++R))[P'.length+1-1]=p:=by simp
   rw [e1,e2] at hn
   rcases List.mem_append.1 ha with ha | ha
   ·have:=(List.pairwise_append.1 hw.1).2.2 a ha p (by simp);omega
   ·rw [List.mem_singleton.1 ha];omega
 ·exact hw.2.2 a ha b hb
def ddF (d:List Int) (x:Int):List Int:=if d.getLast? = some x then d else d++[x]
def ddI (l:List Int):List Int:=l.foldl ddF []
theorem ddI_snoc (l:List Int) (x:Int):ddI (l++[x])=ddF (ddI l) x:=by simp [ddI,List.foldl_append]
theorem ddF_last (d:List Int) (x:Int):(ddF d x).getLast? = some x:=by
 unfold ddF
 split
 ·assumption
 ·simp
theorem ddI_last (l:List Int):(ddI l).getLast? = l.getLast? := by
 rcases List.eq_nil_or_concat l with rfl | ⟨l,x,rfl⟩
 ·rfl
 ·rw [List.concat_eq_append,ddI_snoc,ddF_last];simp
theorem ddI_take (ys:List Int) (m:Nat) (h0:0<m) (hm:m<ys.length):ddI (ys.take (m+1))=if ys[m]=ys[m-1] then ddI (ys.take m) else ddI (ys.take m)++[ys[m]]:=by
 rw [List.take_succ_eq_append_getElem hm,ddI_snoc];unfold ddF;rw [ddI_last,show (ys.take m).getLast? = some ys[m-1] from by rw [List.getLast?_take];simp [show m≠0 by omega,List.getElem?_eq_getElem (show m-1<ys.length by omega)]]
 by_cases e:ys[m]=ys[m-1]
 ·rw [if_pos e,if_pos (by rw [e])]
 ·rw [if_neg e,if_neg (fun h=>e (Option.some.inj h).symm)]
theorem ddI_one (ys:List Int):ddI (ys.take 1)=ys.take 1:=by
 cases ys with
 | nil=>rfl
 | cons a l=>simp [ddI,ddF]
theorem ddI_mem (z:Int) (l:List Int):z∈ddI l↔z∈l:=by
 suffices h:∀ n,∀ l:List Int,l.length=n→(z∈ddI l↔z∈l) from h _ l rfl
 intro n
 induction n with
 | zero=>intro l h;rw [List.eq_nil_of_length_eq_zero h];simp [ddI]
 | succ n ih=>
  intro l h
  rcases List.eq_nil_or_concat l with rfl | ⟨l,x,rfl⟩
  ·simp at h
  ·rw [List.concat_eq_append] at*
   have:=ih l (by simpa using h);rw [ddI_snoc];unfold ddF
   split
   ·rename_i e
    rw [List.mem_append,List.mem_singleton,this];constructor
    ·exact fun h=>.inl h
    ·rintro (h | rfl)
     ·exact h
     ·exact this.1 (List.mem_of_getLast? e)
   ·rw [List.mem_append,List.mem_append,this]
theorem ddI_asc (l:List Int) (h:l.Pairwise (· ≤ ·)):(ddI l).Pairwise (· < ·):=by
 suffices g:∀ n,∀ l:List Int,l.length=n→l.Pairwise (· ≤ ·)→(ddI l).Pairwise (· < ·) from g _ l rfl h
 intro n
 induction n with
 | zero=>intro l h _;rw [List.eq_nil_of_length_eq_zero h];exact List.Pairwise.nil
 | succ n ih=>
  intro l h hs
  rcases List.eq_nil_or_concat l with rfl | ⟨l,x,rfl⟩
  ·simp at h
  ·rw [List.concat_eq_append] at*
   have hs2:=List.pairwise_append.1 hs;have hi:=ih l (by simpa using h) hs2.1;rw [ddI_snoc];unfold ddF
   split
   ·exact hi
   ·rename_i hne
    refine List.pairwise_append.2 ⟨hi,by simp,fun a ha b hb=>?_⟩;rw [List.mem_singleton.1 hb]
    have hle:∀ a∈ddI l,a≤x:=fun a ha=>hs2.2.2 a ((ddI_mem a l).1 ha) x (by simp)
    obtain ⟨d,y,hd⟩:∃ d y,ddI l=d++[y]:=⟨_,_,(List.dropLast_concat_getLast (List.ne_nil_of_mem ha)).symm⟩
    rw [hd] at ha hi hle hne
    have hy:y<x:=by
     have h1:=hle y (by simp)
     have h2:y≠x:=fun e=>hne (by simp [e])
     omega
    rcases List.mem_append.1 ha with ha | ha
    ·have:=(List.pairwise_append.1 hi).2.2 a ha y (by simp);omega
    ·rw [List.mem_singleton.1 ha];exact hy
theorem asc_uniqI:∀ {l m:List Int},l.Pairwise (· < ·)→m.Pairwise (· < ·)→(∀ z,z∈l↔z∈m)→l=m
 | [],[],_,_,_=>rfl
 | [],b::m,_,_,h=>absurd ((h b).2 (by simp)) (by simp)
 | a::l,[],_,_,h=>absurd ((h a).1 (by simp)) (by simp)
 | a :: l,b::m,h1,h2,h=>by
  rw [List.pairwise_cons] at h1 h2
  have e:a=b:=by
   rcases List.mem_cons.1 ((h a).1 (by simp)) with e | e
   ·exact e
   ·rcases List.mem_cons.1 ((h b).2 (by simp)) with f | f
    ·exact f.symm
    ·have:=h1.1 b f;have:=h2.1 a e;omega
  subst e;rw [asc_uniqI h1.2 h2.2 fun z=>?_];constructor
  ·intro hz
   rcases List.mem_cons.1 ((h z).1 (List.mem_cons_of_mem _ hz)) with e | e
   ·subst e;have:=h1.1 z hz;omega
   ·exact e
  ·intro hz
   rcases List.mem_cons.1 ((h z).2 (List.mem_cons_of_mem _ hz)) with e | e
   ·subst e;have:=h2.1 z hz;omega
   ·exact e
theorem dd_sortC {l:List Nat} {ys:List Int} (hp:ys.Perm (l.map Int.ofNat)) (hs:ys.Pairwise (· ≤ ·)):ddI ys=(sortC l).map Int.ofNat:=by
 refine asc_uniqI (ddI_asc ys hs) ?_ fun z=>?_
 ·rw [List.pairwise_map]
  exact List.Pairwise.imp (fun {a b} h=>Int.ofNat_lt.2 h) (sortC_asc l)
 ·rw [ddI_mem,hp.mem_iff,List.mem_map,List.mem_map]
  exact ⟨fun ⟨a,h,e⟩=>⟨a,(sortC_mem a l).2 h,e⟩,fun ⟨a,h,e⟩=>⟨a,(sortC_mem a l).1 h,e⟩⟩
theorem wrapN (n:Nat) (h:n<4611686018427387904):IntKind.i64.wrap (n:Int)=n:=by
 simp [IntKind.wrap,IntKind.bits,IntKind.signed]
 try (split<;>omega)
theorem ofIntN (a:Nat) (ha:a<4611686018427387904):(BitVec.ofInt 64 (a:Int)).toNat=a:=by
 rw [BitVec.ofInt_natCast,BitVec.toNat_ofNat];exact Nat.mod_eq_of_lt (by omega)
theorem andN (a b:Nat) (ha:a<4611686018427387904) (hb:b<4611686018427387904):bits .and .i64 (a:Int) (b:Int)=((a &&& b:Nat):Int):=by
 have hx:a &&& b<2^62:=Nat.and_lt_two_pow _ (by omega)
 show IntKind.i64.wrap ((BitVec.ofInt 64 (a:Int) &&& BitVec.ofInt 64 (b:Int)).toNat:Int)=_
 rw [BitVec.toNat_and,ofIntN a ha,ofIntN b hb];exact wrapN _ (by omega)
theorem bitN (m i:Nat) (hm:m<4611686018427387904):(bits BinOp.and IntKind.i64 ((m:Int)/2^i) 1==1)=m.testBit i:=by
 have h1:((m:Int)/2^i)=((m/2^i:Nat):Int):=by push_cast;rfl
 have h2:m/2^i<4611686018427387904:=Nat.lt_of_le_of_lt (Nat.div_le_self _ _) hm;rw [h1,show (1:Int)=((1:Nat):Int) from rfl,andN _ _ h2 (by omega),Nat.and_one_is_mod,Nat.testBit_eq_decide_div_mod_eq,Bool.eq_iff_iff,beq_iff_eq,decide_eq_true_eq];omega
theorem quietS {f:FuncId} {args:Array Value} {w:World} {n:Nat} {v:Value} (h:Calls Tryz.prog f args (w.drewN n) fun e w'=>e=.returned v∧w.drewN n=w'):
  Calls Tryz.prog f args (w.drewN n) fun e w''=>e=.returned v∧∃ m,w''=w.drewN m:=h.mono fun _ _ ⟨he,hm⟩=>⟨he,n,hm.symm⟩
def zs (l:List Nat):List Int:=l.map Int.ofNat
theorem two8 {n:Nat} (hn:n≤8):2^n≤256:=Nat.pow_le_pow_right (by omega) hn
theorem hasB_any (m i:Nat) (w:World) (hm:m<256) (hi:i≤8):Calls Tryz.prog 165 #[.int .i64 m,.int .i64 i] w fun e w'=>e=.returned (.bool (m.testBit i))∧w=w':=by
 go_enter Tryz.func165,Tryz.ntmps165;go_wp2;go_ret;exact ⟨ret_bool (bitN m i (by omega)),rfl⟩
end Go.Proofs.YtbccmdfdclomiaaGreatDoor
