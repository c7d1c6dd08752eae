import Derived.Test.YtagoboblkadelaaGreatZV9
import Derived.Test.YtagoboblkadelaaGreatZRB
import Derived.Test.YtagoboblkadelaaGreatZMS
import Derived.Test.YtagoboblkadelaaGreatZQE4
/- own -/
namespace Go.Proofs.YtagoboblkadelaaGreat
set_option maxRecDepth 100000
set_option maxHeartbeats 4000000
section
open Go.RowKit
def ji (t:Fm):Prop:=t.enc.length≤100000000→∀ (l:Nat) (k:Int),k=(l:Int)→∀ (v:Value) (w:World),Nds w v t.enc→
 Calls Tryz.prog 145 #[v,.int .i64 k] w fun e w'=>∃ s,e=.returned (.string s)∧bts s=t.txt l∧aa w w'
theorem gD {t:Fm} {l:Nat} (h:t.lev<l):t.txt l=40::(t.body++[41]):=by simp only[Fm.txt,Fm.par];rw[decide_eq_true h];rfl
theorem jD {t:Fm} {l:Nat} (h:¬t.lev<l):t.txt l=t.body:=by simp only[Fm.txt,Fm.par];rw[decide_eq_false h];rfl
theorem J6 (x y:Fm) (hx:ji x) (hy:ji y):ji (Fm.and x y):=by
 intro hL l k hk v w hv;simp only[Fm.enc,zh,ze] at hL;have x7:=hv;obtain⟨b,off,n,cap,rfl,h0,h1,h2,h3,hc,H8⟩:=hv.root
 replace hc:w.cell? ⟨b,off,none⟩=some (.int .i64 2):=hc
 have HX:=hid (hx qB);clear hx;have HY:=hid (hy qB);clear hy
 by_cases x6:(2:Nat)<l
 ·rw[gD (t:=Fm.and x y) (show(2)<l from x6)]
  have H7:((2:Int)<k):=qB;clear x6 hk;go_enter Tryz.func145,Tryz.ntmps145;go_wp2_with fail;refine(dg _ _ x y.enc _ _ x7 rfl).mono ?_;rintro e w' ⟨v1,rfl,x8,rfl⟩;go_wp2_with fail;refine(HX.out 2 _ rfl _ _ x8).mono ?_;rintro e w1 ⟨s1,rfl,eE,k1⟩;have z1:=a7 eE qB;go_wp2_with fail;refine(bY _ _ x y _ _ (x7.keeps k1) rfl).mono ?_;rintro e w' ⟨v2,rfl,x9,rfl⟩;go_wp2_with fail;refine(HY.out 3 _ rfl _ _ x9).mono ?_;rintro e w2 ⟨s2,rfl,h9,k2⟩;have z2:=a7 h9 qB;go_wp2_with fail;go_ret;exact⟨_,rfl,by simp only[bt,eE,h9,Fm.body,Fm.txt,zz];rfl,k1.trans k2⟩
 ·rw[jD (t:=Fm.and x y) (show ¬(2)<l from x6)]
  have H7:¬((2:Int)<k):=qB;clear x6 hk;go_enter Tryz.func145,Tryz.ntmps145;go_wp2_with fail;refine(dg _ _ x y.enc _ _ x7 rfl).mono ?_;rintro e w' ⟨v1,rfl,x8,rfl⟩;go_wp2_with fail;refine(HX.out 2 _ rfl _ _ x8).mono ?_;rintro e w1 ⟨s1,rfl,eE,k1⟩;have z1:=a7 eE qB;go_wp2_with fail;refine(bY _ _ x y _ _ (x7.keeps k1) rfl).mono ?_;rintro e w' ⟨v2,rfl,x9,rfl⟩;go_wp2_with fail;refine(HY.out 3 _ rfl _ _ x9).mono ?_;rintro e w2 ⟨s2,rfl,h9,k2⟩;have z2:=a7 h9 qB;go_wp2_with fail;go_ret;exact⟨_,rfl,by simp only[bt,eE,h9,Fm.body,Fm.txt,zz];rfl,k1.trans k2⟩
theorem KO (x y:Fm) (hx:ji x) (hy:ji y):ji (Fm.or x y):=by
 intro hL l k hk v w hv;simp only[Fm.enc,zh,ze] at hL;have x7:=hv;obtain⟨b,off,n,cap,rfl,h0,h1,h2,h3,hc,H8⟩:=hv.root
 replace hc:w.cell? ⟨b,off,none⟩=some (.int .i64 3):=hc
 have HX:=hid (hx qB);clear hx;have HY:=hid (hy qB);clear hy
 by_cases x6:(1:Nat)<l
 ·rw[gD (t:=Fm.or x y) (show(1)<l from x6)]
  have H7:((1:Int)<k):=qB;clear x6 hk;go_enter Tryz.func145,Tryz.ntmps145;go_wp2_with fail;refine(dg _ _ x y.enc _ _ x7 rfl).mono ?_;rintro e w' ⟨v1,rfl,x8,rfl⟩;go_wp2_with fail;refine(HX.out 1 _ rfl _ _ x8).mono ?_;rintro e w1 ⟨s1,rfl,eE,k1⟩;have z1:=a7 eE qB;go_wp2_with fail;refine(bY _ _ x y _ _ (x7.keeps k1) rfl).mono ?_;rintro e w' ⟨v2,rfl,x9,rfl⟩;go_wp2_with fail;refine(HY.out 2 _ rfl _ _ x9).mono ?_;rintro e w2 ⟨s2,rfl,h9,k2⟩;have z2:=a7 h9 qB;go_wp2_with fail;go_ret;exact⟨_,rfl,by simp only[bt,eE,h9,Fm.body,Fm.txt,zz];rfl,k1.trans k2⟩
 ·rw[jD (t:=Fm.or x y) (show ¬(1)<l from x6)]
  have H7:¬((1:Int)<k):=qB;clear x6 hk;go_enter Tryz.func145,Tryz.ntmps145;go_wp2_with fail;refine(dg _ _ x y.enc _ _ x7 rfl).mono ?_;rintro e w' ⟨v1,rfl,x8,rfl⟩;go_wp2_with fail;refine(HX.out 1 _ rfl _ _ x8).mono ?_;rintro e w1 ⟨s1,rfl,eE,k1⟩;have z1:=a7 eE qB;go_wp2_with fail;refine(bY _ _ x y _ _ (x7.keeps k1) rfl).mono ?_;rintro e w' ⟨v2,rfl,x9,rfl⟩;go_wp2_with fail;refine(HY.out 2 _ rfl _ _ x9).mono ?_;rintro e w2 ⟨s2,rfl,h9,k2⟩;have z2:=a7 h9 qB;go_wp2_with fail;go_ret;exact⟨_,rfl,by simp only[bt,eE,h9,Fm.body,Fm.txt,zz];rfl,k1.trans k2⟩
theorem J9:ji (Fm.fls):=by
 intro hL l k hk v w hv;simp only[Fm.enc,zh] at hL;have x7:=hv;obtain⟨b,off,n,cap,rfl,h0,h1,h2,h3,hc,x6⟩:=hv.root
 replace hc:w.cell? ⟨b,off,none⟩=some (.int .i64 1):=hc
 by_cases eE:(3:Nat)<l
 ·rw[gD (t:=Fm.fls) (show(3)<l from eE)]
  have h9:((3:Int)<k):=qB;clear eE hk;go_enter Tryz.func145,Tryz.ntmps145;go_wp2_with fail;go_ret;exact⟨_,rfl,rfl,aa.refl _⟩
 ·rw[jD (t:=Fm.fls) (show ¬(3)<l from eE)]
  have h9:¬((3:Int)<k):=qB;clear eE hk;go_enter Tryz.func145,Tryz.ntmps145;go_wp2_with fail;go_ret;exact⟨_,rfl,rfl,aa.refl _⟩
theorem Ka (x y:Fm) (hf:y.isFls=false) (hx:ji x) (hy:ji y):ji (Fm.imp x y):=by
 intro hL l k hk v w hv;simp only[Fm.enc,zh,ze] at hL;have eE:=hv;obtain⟨b,off,n,cap,rfl,h0,h1,h2,h3,hc,KT⟩:=hv.root
 replace hc:w.cell? ⟨b,off,none⟩=some (.int .i64 4):=hc
 have HX:=hid (hx qB);clear hx;have HY:=hid (hy qB);clear hy
 have hB:(Fm.imp x y).body=x.txt 1++62::y.body:=by simp[Fm.body,Fm.txt,hf]
 have hE:decide ((Fm.imp x y).enc=(Fm.imp Fm.fls Fm.fls).enc)=false:=decide_eq_false (fun h=>by cases qR h;cases hf)
 have h9:(Fm.imp x y).lev=0:=by simp[Fm.lev,hf]
 have KS:(y.kind==1)=false:=by cases y<;>first | rfl | (cases hf)
 have KP:=hid hE;clear hE;have HB:=hid hB;clear hB
 by_cases x8:(0:Nat)<l
 ·rw[gD (t:=Fm.imp x y) (by rw[h9];exact x8)]
  have KR:((0:Int)<k):=qB;clear x8 hk;go_enter Tryz.func145,Tryz.ntmps145;go_wp2_with fail;refine(dh w).mono ?_;rintro e wt ⟨vt,rfl,H8,kt⟩;go_wp2_with fail;refine(eu _ _ _ _ wt (eE.keeps kt) (H8.nds (by simp[Fm.enc]))).mono ?_;rintro e we ⟨rfl,ke⟩;rw[KP.out];have k0:=kt.trans ke;go_wp2_with fail;refine(bY _ _ x y _ _ (eE.keeps k0) rfl).mono ?_;rintro e w' ⟨vy,rfl,H9,rfl⟩;obtain⟨by',oy,ny,cy,rfl,g0,g1,g2,g3,gk,_⟩:=H9.root;go_wp2_with fail;refine(dg _ _ x y.enc _ _ (eE.keeps k0) rfl).mono ?_;rintro e w' ⟨v1,rfl,x9,rfl⟩;go_wp2_with fail;refine(HX.out 1 _ rfl _ _ x9).mono ?_;rintro e w1 ⟨s1,rfl,x6,k1⟩;have z1:=a7 x6 qB;go_wp2_with fail;refine(bY _ _ x y _ _ ((eE.keeps k0).keeps k1) rfl).mono ?_;rintro e w' ⟨v2,rfl,H7,rfl⟩;go_wp2_with fail;refine(HY.out 0 _ rfl _ _ H7).mono ?_;rintro e w2 ⟨s2,rfl,x7,k2⟩;have z2:=a7 x7 qB;go_wp2_with fail;go_ret;exact⟨_,rfl,by rw[HB.out];simp only[bt,x6,x7,Fm.txt0,zz];rfl,k0.trans (k1.trans k2)⟩
 ·rw[jD (t:=Fm.imp x y) (by rw[h9];exact x8)]
  have KR:¬((0:Int)<k):=qB;clear x8 hk;go_enter Tryz.func145,Tryz.ntmps145;go_wp2_with fail;refine(dh w).mono ?_;rintro e wt ⟨vt,rfl,H8,kt⟩;go_wp2_with fail;refine(eu _ _ _ _ wt (eE.keeps kt) (H8.nds (by simp[Fm.enc]))).mono ?_;rintro e we ⟨rfl,ke⟩;rw[KP.out];have k0:=kt.trans ke;go_wp2_with fail;refine(bY _ _ x y _ _ (eE.keeps k0) rfl).mono ?_;rintro e w' ⟨vy,rfl,H9,rfl⟩;obtain⟨by',oy,ny,cy,rfl,g0,g1,g2,g3,gk,_⟩:=H9.root;go_wp2_with fail;refine(dg _ _ x y.enc _ _ (eE.keeps k0) rfl).mono ?_;rintro e w' ⟨v1,rfl,x9,rfl⟩;go_wp2_with fail;refine(HX.out 1 _ rfl _ _ x9).mono ?_;rintro e w1 ⟨s1,rfl,x6,k1⟩;have z1:=a7 x6 qB;go_wp2_with fail;refine(bY _ _ x y _ _ ((eE.keeps k0).keeps k1) rfl).mono ?_;rintro e w' ⟨v2,rfl,H7,rfl⟩;go_wp2_with fail;refine(HY.out 0 _ rfl _ _ H7).mono ?_;rintro e w2 ⟨s2,rfl,x7,k2⟩;have z2:=a7 x7 qB;go_wp2_with fail;go_ret;exact⟨_,rfl,by rw[HB.out];simp only[bt,x6,x7,Fm.txt0,zz];rfl,k0.trans (k1.trans k2)⟩
theorem Kb (x:Fm) (H8:x.isFls=false) (hx:ji x):ji (Fm.imp x Fm.fls):=by
 intro hL l k hk v w hv;simp only[Fm.enc,zh,ze] at hL;have eE:=hv;obtain⟨b,off,n,cap,rfl,h0,h1,h2,h3,hc,KR⟩:=hv.root
 replace hc:w.cell? ⟨b,off,none⟩=some (.int .i64 4):=hc
 have HX:=hid (hx qB);clear hx
 have hB:(Fm.imp x Fm.fls).body=126::x.txt 3:=by have hf:Fm.fls.isFls=true:=rfl;simp[Fm.body,Fm.txt,hf,H8]
 have hE:decide ((Fm.imp x Fm.fls).enc=(Fm.imp Fm.fls Fm.fls).enc)=false:=decide_eq_false (fun h=>by cases qR h;cases H8);have h9:(Fm.imp x Fm.fls).lev=3:=rfl;have H9:=hid hE;clear hE;have HB:=hid hB;clear hB H8
 by_cases x7:(3:Nat)<l
 ·rw[gD (t:=Fm.imp x Fm.fls) (by rw[h9];exact x7)]
  have KP:((3:Int)<k):=qB;clear x7 hk;go_enter Tryz.func145,Tryz.ntmps145;go_wp2_with fail;refine(dh w).mono ?_;rintro e wt ⟨vt,rfl,x9,kt⟩;go_wp2_with fail;refine(eu _ _ _ _ wt (eE.keeps kt) (x9.nds (by simp[Fm.enc]))).mono ?_;rintro e we ⟨rfl,ke⟩;rw[H9.out];have k0:=kt.trans ke;go_wp2_with fail;refine(bY _ _ x Fm.fls _ _ (eE.keeps k0) rfl).mono ?_;rintro e w' ⟨vy,rfl,H7,rfl⟩;obtain⟨by',oy,ny,cy,rfl,g0,g1,g2,g3,gk,_⟩:=H7.root
  replace gk:we.cell? ⟨by',oy,none⟩=some (.int .i64 1):=gk
  go_wp2_with fail;refine(dg _ _ x Fm.fls.enc _ _ (eE.keeps k0) rfl).mono ?_;rintro e w' ⟨v1,rfl,x8,rfl⟩;go_wp2_with fail;refine(HX.out 3 _ rfl _ _ x8).mono ?_;rintro e w1 ⟨s1,rfl,x6,k1⟩;have z1:=a7 x6 qB;go_wp2_with fail;go_ret;exact⟨_,rfl,by rw[HB.out];simp only[bt,x6];rfl,k0.trans k1⟩
 ·rw[jD (t:=Fm.imp x Fm.fls) (by rw[h9];exact x7)]
  have KP:¬((3:Int)<k):=qB;clear x7 hk;go_enter Tryz.func145,Tryz.ntmps145;go_wp2_with fail;refine(dh w).mono ?_;rintro e wt ⟨vt,rfl,x9,kt⟩;go_wp2_with fail;refine(eu _ _ _ _ wt (eE.keeps kt) (x9.nds (by simp[Fm.enc]))).mono ?_;rintro e we ⟨rfl,ke⟩;rw[H9.out];have k0:=kt.trans ke;go_wp2_with fail;refine(bY _ _ x Fm.fls _ _ (eE.keeps k0) rfl).mono ?_;rintro e w' ⟨vy,rfl,H7,rfl⟩;obtain⟨by',oy,ny,cy,rfl,g0,g1,g2,g3,gk,_⟩:=H7.root
  replace gk:we.cell? ⟨by',oy,none⟩=some (.int .i64 1):=gk
  go_wp2_with fail;refine(dg _ _ x Fm.fls.enc _ _ (eE.keeps k0) rfl).mono ?_;rintro e w' ⟨v1,rfl,x8,rfl⟩;go_wp2_with fail;refine(HX.out 3 _ rfl _ _ x8).mono ?_;rintro e w1 ⟨s1,rfl,x6,k1⟩;have z1:=a7 x6 qB;go_wp2_with fail;go_ret;exact⟨_,rfl,by rw[HB.out];simp only[bt,x6];rfl,k0.trans k1⟩
theorem Ke:ji (Fm.imp Fm.fls Fm.fls):=by
 intro hL l k hk v w hv;simp only[Fm.enc,zh,ze] at hL;have x6:=hv;obtain⟨b,off,n,cap,rfl,h0,h1,h2,h3,hc,x8⟩:=hv.root
 replace hc:w.cell? ⟨b,off,none⟩=some (.int .i64 4):=hc
 by_cases eE:(3:Nat)<l
 ·rw[gD (t:=Fm.imp Fm.fls Fm.fls) (show(3)<l from eE)]
  have x7:((3:Int)<k):=qB;clear eE hk;go_enter Tryz.func145,Tryz.ntmps145;go_wp2_with fail;refine(dh w).mono ?_;rintro e wt ⟨vt,rfl,h9,kt⟩;go_wp2_with fail;refine(eu _ _ _ _ wt (x6.keeps kt) (h9.nds (by simp[Fm.enc]))).mono ?_;rintro e we ⟨rfl,ke⟩;rw[show decide ((Fm.imp Fm.fls Fm.fls).enc=(Fm.imp Fm.fls Fm.fls).enc)=true from decide_eq_true rfl];have k0:=kt.trans ke;go_wp2_with fail;go_ret;exact⟨_,rfl,rfl,k0⟩
 ·rw[jD (t:=Fm.imp Fm.fls Fm.fls) (show ¬(3)<l from eE)]
  have x7:¬((3:Int)<k):=qB;clear eE hk;go_enter Tryz.func145,Tryz.ntmps145;go_wp2_with fail;refine(dh w).mono ?_;rintro e wt ⟨vt,rfl,h9,kt⟩;go_wp2_with fail;refine(eu _ _ _ _ wt (x6.keeps kt) (h9.nds (by simp[Fm.enc]))).mono ?_;rintro e we ⟨rfl,ke⟩;rw[show decide ((Fm.imp Fm.fls Fm.fls).enc=(Fm.imp Fm.fls Fm.fls).enc)=true from decide_eq_true rfl];have k0:=kt.trans ke;go_wp2_with fail;go_ret;exact⟨_,rfl,rfl,k0⟩
theorem Kf (i:Nat) (hi:i<6):ji (.var i):=by
 intro hL l k hk v w hv;simp only[Fm.enc,zh] at hL;have x8:=hv;obtain⟨b,off,n,cap,rfl,h0,h1,h2,h3,hc,eE⟩:=hv.root
 replace hc:w.cell? ⟨b,off,none⟩=some (.int .i64 0):=hc
 replace eE:w.cell? ⟨b,off+1,none⟩=some (.int .i64 (i:Int)):=eE
 have h9:i=0∨i=1∨i=2∨i=3∨i=4∨i=5:=qB
 by_cases x6:(3:Nat)<l
 ·rw[gD (t:=Fm.var i) (show(3)<l from x6)]
  have x7:((3:Int)<k):=qB;clear x6 hk
  rcases h9 with rfl | rfl | rfl | rfl | rfl | rfl
  ·replace eE:w.cell? ⟨b,off+1,none⟩=some (.int .i64 0):=eE
   go_enter Tryz.func145,Tryz.ntmps145;go_wp2_with fail
   go_quiet (fail)
   go_wp2_with fail;go_ret;refine⟨_,rfl,?_,?_⟩
   ·decide
   ·exact aa.drewN (aa.refl _) _
  ·replace eE:w.cell? ⟨b,off+1,none⟩=some (.int .i64 1):=eE
   go_enter Tryz.func145,Tryz.ntmps145;go_wp2_with fail
   go_quiet (fail)
   go_wp2_with fail;go_ret;refine⟨_,rfl,?_,?_⟩
   ·decide
   ·exact aa.drewN (aa.refl _) _
  ·replace eE:w.cell? ⟨b,off+1,none⟩=some (.int .i64 2):=eE
   go_enter Tryz.func145,Tryz.ntmps145;go_wp2_with fail
   go_quiet (fail)
   go_wp2_with fail;go_ret;refine⟨_,rfl,?_,?_⟩
   ·decide
   ·exact aa.drewN (aa.refl _) _
  ·replace eE:w.cell? ⟨b,off+1,none⟩=some (.int .i64 3):=eE
   go_enter Tryz.func145,Tryz.ntmps145;go_wp2_with fail
   go_quiet (fail)
   go_wp2_with fail;go_ret;refine⟨_,rfl,?_,?_⟩
   ·decide
   ·exact aa.drewN (aa.refl _) _
  ·replace eE:w.cell? ⟨b,off+1,none⟩=some (.int .i64 4):=eE
   go_enter Tryz.func145,Tryz.ntmps145;go_wp2_with fail
   go_quiet (fail)
   go_wp2_with fail;go_ret;refine⟨_,rfl,?_,?_⟩
   ·decide
   ·exact aa.drewN (aa.refl _) _
  ·replace eE:w.cell? ⟨b,off+1,none⟩=some (.int .i64 5):=eE
   go_enter Tryz.func145,Tryz.ntmps145;go_wp2_with fail
   go_quiet (fail)
   go_wp2_with fail;go_ret;refine⟨_,rfl,?_,?_⟩
   ·decide
   ·exact aa.drewN (aa.refl _) _
 ·rw[jD (t:=Fm.var i) (show ¬(3)<l from x6)]
  have x7:¬((3:Int)<k):=qB;clear x6 hk
  rcases h9 with rfl | rfl | rfl | rfl | rfl | rfl
  ·replace eE:w.cell? ⟨b,off+1,none⟩=some (.int .i64 0):=eE
   go_enter Tryz.func145,Tryz.ntmps145;go_wp2_with fail
   go_quiet (fail)
   go_wp2_with fail;go_ret;refine⟨_,rfl,?_,?_⟩
   ·decide
   ·exact aa.drewN (aa.refl _) _
  ·replace eE:w.cell? ⟨b,off+1,none⟩=some (.int .i64 1):=eE
   go_enter Tryz.func145,Tryz.ntmps145;go_wp2_with fail
   go_quiet (fail)
   go_wp2_with fail;go_ret;refine⟨_,rfl,?_,?_⟩
   ·decide
   ·exact aa.drewN (aa.refl _) _
  ·replace eE:w.cell? ⟨b,off+1,none⟩=some (.int .i64 2):=eE
   go_enter Tryz.func145,Tryz.ntmps145;go_wp2_with fail
   go_quiet (fail)
   go_wp2_with fail;go_ret;refine⟨_,rfl,?_,?_⟩
   ·decide
   ·exact aa.drewN (aa.refl _) _
  ·replace eE:w.cell? ⟨b,off+1,none⟩=some (.int .i64 3):=eE
   go_enter Tryz.func145,Tryz.ntmps145;go_wp2_with fail
   go_quiet (fail)
   go_wp2_with fail;go_ret;refine⟨_,rfl,?_,?_⟩
   ·decide
   ·exact aa.drewN (aa.refl _) _
  ·replace eE:w.cell? ⟨b,off+1,none⟩=some (.int .i64 4):=eE
   go_enter Tryz.func145,Tryz.ntmps145;go_wp2_with fail
   go_quiet (fail)
   go_wp2_with fail;go_ret;refine⟨_,rfl,?_,?_⟩
   ·decide
   ·exact aa.drewN (aa.refl _) _
  ·replace eE:w.cell? ⟨b,off+1,none⟩=some (.int .i64 5):=eE
   go_enter Tryz.func145,Tryz.ntmps145;go_wp2_with fail
   go_quiet (fail)
   go_wp2_with fail;go_ret;refine⟨_,rfl,?_,?_⟩
   ·decide
   ·exact aa.drewN (aa.refl _) _
theorem J7 (x:Fm) (hx:ji x):ji (Fm.box x):=by
 intro hL l k hk v w hv
 have KP:(Fm.box x).enc.length=x.enc.length+1:=by simp only[Fm.enc,zh]
 have hp:=Fm.enc_pos x;have H7:=hv;obtain⟨b,off,n,cap,rfl,h0,h1,h2,h3,hc,KR⟩:=hv.root
 replace hc:w.cell? ⟨b,off,none⟩=some (.int .i64 5):=hc
 obtain⟨hn,x6⟩:n=(Fm.box x).enc.length∧At w (some ⟨b,off,none⟩) (bc (Fm.box x).enc):=by
  obtain⟨p',c',e,_,_,x6,_⟩:=H7
  cases e
  exact⟨rfl,x6⟩
 have x8:=hid (fun o n' c' (ho:o=off+1*2) (hn':n'=n-1) (x9:n'≤c') (H8:c'≤maxLen)=>(Nds.sub (w:=w) (l:=[⟨5,0⟩]) (m:=x.enc) (r:=[]) (b:=b) (off:=off) (o:=o) (n:=n') (cap:=c') (by simpa [Fm.enc] using x6) qB (by simpa using ho) qB x9 H8));have HX:=hid (hx qB);clear hx;have hB:(Fm.box x).body=91::93::x.txt 3:=rfl;have eE:(Fm.box x).lev=3:=rfl;have HB:=hid hB;clear hB x6 hv H7;have x9:¬cap=1:=qB;unfold maxLen at h2
 by_cases x7:(3:Nat)<l
 ·rw[gD (t:=Fm.box x) (by rw[eE];exact x7)]
  have H9:((3:Int)<k):=qB;clear x7 hk;go_enter Tryz.func145,Tryz.ntmps145;go_wp2_with fail;refine(HX.out 3 _ rfl _ _ (x8.out _ _ _ (by first | rfl | omega) qB qB (by unfold maxLen;omega))).mono ?_;rintro e w1 ⟨s1,rfl,h9,k1⟩;have z1:=a7 h9 qB;go_wp2_with fail;go_ret;exact⟨_,rfl,by rw[HB.out];simp only[bt,h9];rfl,k1⟩
 ·rw[jD (t:=Fm.box x) (by rw[eE];exact x7)]
  have H9:¬((3:Int)<k):=qB;clear x7 hk;go_enter Tryz.func145,Tryz.ntmps145;go_wp2_with fail;refine(HX.out 3 _ rfl _ _ (x8.out _ _ _ (by first | rfl | omega) qB qB (by unfold maxLen;omega))).mono ?_;rintro e w1 ⟨s1,rfl,h9,k1⟩;have z1:=a7 h9 qB;go_wp2_with fail;go_ret;exact⟨_,rfl,by rw[HB.out];simp only[bt,h9];rfl,k1⟩
theorem J8 (x:Fm) (hx:ji x):ji (Fm.dia x):=by
 intro hL l k hk v w hv
 have KP:(Fm.dia x).enc.length=x.enc.length+1:=by simp only[Fm.enc,zh]
 have hp:=Fm.enc_pos x;have H7:=hv;obtain⟨b,off,n,cap,rfl,h0,h1,h2,h3,hc,KR⟩:=hv.root
 replace hc:w.cell? ⟨b,off,none⟩=some (.int .i64 6):=hc
 obtain⟨hn,x6⟩:n=(Fm.dia x).enc.length∧At w (some ⟨b,off,none⟩) (bc (Fm.dia x).enc):=by
  obtain⟨p',c',e,_,_,x6,_⟩:=H7
  cases e
  exact⟨rfl,x6⟩
 have x8:=hid (fun o n' c' (ho:o=off+1*2) (hn':n'=n-1) (x9:n'≤c') (H8:c'≤maxLen)=>(Nds.sub (w:=w) (l:=[⟨6,0⟩]) (m:=x.enc) (r:=[]) (b:=b) (off:=off) (o:=o) (n:=n') (cap:=c') (by simpa [Fm.enc] using x6) qB (by simpa using ho) qB x9 H8));have HX:=hid (hx qB);clear hx;have hB:(Fm.dia x).body=60::62::x.txt 3:=rfl;have eE:(Fm.dia x).lev=3:=rfl;have HB:=hid hB;clear hB x6 hv H7;have x9:¬cap=1:=qB;unfold maxLen at h2
 by_cases x7:(3:Nat)<l
 ·rw[gD (t:=Fm.dia x) (by rw[eE];exact x7)]
  have H9:((3:Int)<k):=qB;clear x7 hk;go_enter Tryz.func145,Tryz.ntmps145;go_wp2_with fail;refine(HX.out 3 _ rfl _ _ (x8.out _ _ _ (by first | rfl | omega) qB qB (by unfold maxLen;omega))).mono ?_;rintro e w1 ⟨s1,rfl,h9,k1⟩;have z1:=a7 h9 qB;go_wp2_with fail;go_ret;exact⟨_,rfl,by rw[HB.out];simp only[bt,h9];rfl,k1⟩
 ·rw[jD (t:=Fm.dia x) (by rw[eE];exact x7)]
  have H9:¬((3:Int)<k):=qB;clear x7 hk;go_enter Tryz.func145,Tryz.ntmps145;go_wp2_with fail;refine(HX.out 3 _ rfl _ _ (x8.out _ _ _ (by first | rfl | omega) qB qB (by unfold maxLen;omega))).mono ?_;rintro e w1 ⟨s1,rfl,h9,k1⟩;have z1:=a7 h9 qB;go_wp2_with fail;go_ret;exact⟨_,rfl,by rw[HB.out];simp only[bt,h9];rfl,k1⟩
theorem Kc (t:Fm) (hw:t.wf):ji t:=by
 induction t with
 | var i=>exact Kf i hw
 | fls=>exact J9
 | and x y hx hy=>exact J6 x y (hx hw.1) (hy hw.2)
 | or x y hx hy=>exact KO x y (hx hw.1) (hy hw.2)
 | box x hx=>exact J7 x (hx hw)
 | dia x hx=>exact J8 x (hx hw)
 | imp x y hx hy=>
  cases hf:y.isFls
  ·exact Ka x y hf (hx hw.1) (hy hw.2)
  ·cases y<;>simp[Fm.isFls] at hf
   cases hx1:x.isFls
   ·exact Kb x hx1 (hx hw.1)
   ·cases x<;>simp[Fm.isFls] at hx1
    exact Ke
theorem eI (t:Fm) (hw:t.wf) (hl:t.enc.length≤100000000) (v:Value) (w:World) (hv:Nds w v t.enc):
  Calls Tryz.prog 97 #[v] w fun e w'=>∃ s,e=.returned (.string s)∧bts s=t.body∧aa w w':=by
 have H:=hid (Kc t hw hl 0 0 rfl v w hv);go_enter Tryz.func97,Tryz.ntmps97;go_wp2_with fail;refine H.out.mono ?_;rintro e w1 ⟨s,rfl,hs,k1⟩;go_wp2_with fail;go_ret;exact⟨_,rfl,by rw[hs,Fm.txt0],k1⟩
def ck (s:ByteArray) (t:Fm):Prop:=t.wf∧bts s=t.body∧t.enc.length≤40
theorem ck.inj {s:ByteArray} {t u:Fm} (h:ck s t) (k:ck s u):t=u:=Dn h.1 k.1 (h.2.1.symm.trans k.2.1)
theorem ck.small {s:ByteArray} {t:Fm} (h:ck s t):s.size≤200:=by
 have:=xr t;rw[←A4,h.2.1];have:=h.2.2;omega
noncomputable def ij (s:ByteArray):Bool:=@decide (∃ t,ck s t) (Classical.propDecidable _)
theorem fp {s:ByteArray}:ij s=true↔∃ t,ck s t:=by unfold ij;exact @decide_eq_true_iff _ (Classical.propDecidable _)
theorem xX {s:ByteArray}:ij s=false↔∀ t,¬ck s t:=by unfold ij;exact(@decide_eq_false_iff_not _ (Classical.propDecidable _)).trans not_exists
def Jf (w:World) (s:ByteArray) (e:Ending) (w':World):Prop:=
 (∃ j:Nat,j≤s.size∧e=.returned (.tuple #[.slice none 0 0,.int .i64 j])∧aa w w')∨
 (∃ (v:Value) (t:Fm),t.wf∧t.enc.length≤3*s.size+1∧e=.returned (.tuple #[v,.int .i64 (-1)])∧aU w' w.heap.size v t.enc∧aa w w')
theorem Ea (s:ByteArray) (w:World) (hs:s.size≤10000000):Calls Tryz.prog 179 #[.string s] w (Jf w s):=by
 have h0:=cG.new w s 206 qB;have HR:=hid ((CQ s.size).1 _ _ s 0 false h0 hs qB);have k0:=(aa.refl w).alloc (.cells #[.string s,.int .i64 0,.bool false] 206);clear h0;go_enter Tryz.func179,Tryz.ntmps179;go_wp2_with fail;refine HR.out.mono ?_;rintro e w1 ⟨v1,t1,j1,b1,rfl,x6,h9,h1,x7,x8,g1⟩;have kw:=k0.grown g1 (fun k hk=>by cases hk;exact zm _);obtain⟨c0,c1,c2,f1,f2,le,sz⟩:=h1
 cases b1 with
 | true=>
  go_wp2_with fail
  go_quiet (fail)
  go_wp2_with fail;refine bodyPost_ret (v:=.tuple #[.slice none 0 0,.int .i64 j1]) (by simp[results,Tryz.results179,go_sem]) rfl ?_;exact Or.inl ⟨j1,le,rfl,kw.drewN _⟩
 | false=>
  by_cases x9:j1<s.size
  ·have eE:decide ((j1:Int)<s.size)=true:=by simp;omega
   go_wp2_with fail
   go_quiet (fail)
   go_wp2_with fail;refine bodyPost_ret (v:=.tuple #[.slice none 0 0,.int .i64 j1]) (by simp[results,Tryz.results179,go_sem]) rfl ?_;exact Or.inl ⟨j1,le,rfl,kw.drewN _⟩
  ·have eE:decide ((j1:Int)<s.size)=false:=by simp;omega
   go_wp2_with fail;refine bodyPost_ret (v:=.tuple #[v1,.int .i64 (-1)]) (by simp[results,Tryz.results179,go_sem]) rfl ?_;exact Or.inr ⟨_,t1,x6,qB,rfl,h9.mono qD,kw⟩
def Hc (w:World) (s:ByteArray) (e:Ending) (w':World):Prop:=
 (∃ j c:Int,c≠0∧e=.returned (.tuple #[.slice none 0 0,.int .i64 j,.int .i64 c])∧aa w w')∨
 (∃ (v:Value) (t:Fm),t.wf∧t.enc.length≤40∧s.size≤200∧e=.returned (.tuple #[v,.int .i64 0,.int .i64 0])∧aU w' w.heap.size v t.enc∧aa w w')
theorem AG (s:ByteArray) (w:World) (hs:s.size≤10000000):Calls Tryz.prog 130 #[.string s] w (Hc w s):=by
 by_cases x8:s.size>200
 ·have hs':(s.size:Int)>200:=qB
  go_enter Tryz.func130,Tryz.ntmps130;go_wp2_with fail;refine bodyPost_ret (v:=.tuple #[.slice none 0 0,.int .i64 0,.int .i64 3]) (by simp[results,Tryz.results130,go_sem]) rfl ?_;exact Or.inl ⟨0,3,qC,rfl,aa.refl _⟩
 ·have hs':¬((s.size:Int)>200):=qB
  have HR:=hid (Ea s w hs);go_enter Tryz.func130,Tryz.ntmps130;go_wp2_with fail;refine HR.out.mono ?_;rintro e w1 (⟨j,hj,rfl,k1⟩ | ⟨v1,t1,x9,x6,rfl,eE,k1⟩)
  ·have hj':(j:Int)≥0:=qB
   go_wp2_with fail;refine bodyPost_ret (v:=.tuple #[.slice none 0 0,.int .i64 j,.int .i64 6]) (by simp[results,Tryz.results130,go_sem]) rfl ?_;exact Or.inl ⟨j,6,qC,rfl,k1⟩
  ·obtain⟨p1,n1,q1,rfl⟩:∃ p n c,v1=.slice p n c:=by obtain⟨p,c,e,_⟩:=At.of_own eE;exact⟨p,_,c,e⟩
   have x7:n1=t1.enc.length:=by obtain⟨p,c,e,_⟩:=At.of_own eE;cases e;rfl
   have h9:=hid x7;clear x7
   by_cases H7:t1.enc.length>40
   ·have x6:(n1:Int)>40:=by have:=h9.out;omega
    go_wp2_with fail;refine bodyPost_ret (v:=.tuple #[.slice none 0 0,.int .i64 0,.int .i64 3]) (by simp[results,Tryz.results130,go_sem]) rfl ?_;exact Or.inl ⟨0,3,qC,rfl,k1⟩
   ·have x6:¬((n1:Int)>40):=by have:=h9.out;omega
    go_wp2_with fail;refine bodyPost_ret (v:=.tuple #[.slice p1 n1 q1,.int .i64 0,.int .i64 0]) (by simp[results,Tryz.results130,go_sem]) rfl ?_;exact Or.inr ⟨_,t1,x9,qB,qB,rfl,eE,k1⟩
def pk (w:World) (s:ByteArray) (e:Ending) (w':World):Prop:=
 ∃ v,e=.returned (.tuple #[v,.bool (ij s)])∧aa w w'∧∀ t,ck s t→aU w' w.heap.size v t.enc
theorem AH (t:Fm) (s:ByteArray) (w:World) (h:ck s t):
  Calls Tryz.prog 130 #[.string s] w fun e w'=>∃ v,e=.returned (.tuple #[v,.int .i64 0,.int .i64 0])∧aU w' w.heap.size v t.enc∧aa w w':=by
 have hs:=h.small;obtain⟨hw,hb,hl⟩:=h;have HR:=hid (ye t hw s w hb qB qB);have hs':¬((s.size:Int)>200):=qB;clear hb;go_enter Tryz.func130,Tryz.ntmps130;go_wp2_with fail;refine HR.out.mono ?_;rintro e w1 ⟨v1,rfl,eE,k1⟩
 obtain⟨p1,n1,q1,rfl⟩:∃ p n c,v1=.slice p n c:=by obtain⟨p,c,e,_⟩:=At.of_own eE;exact⟨p,_,c,e⟩
 have h9:n1=t.enc.length:=by obtain⟨p,c,e,_⟩:=At.of_own eE;cases e;rfl
 have x7:¬((n1:Int)>40):=qB;have x6:=hid h9;clear h9;go_wp2_with fail;refine bodyPost_ret (v:=.tuple #[.slice p1 n1 q1,.int .i64 0,.int .i64 0]) (by simp[results,Tryz.results130,go_sem]) rfl ?_;exact⟨_,rfl,eE,k1⟩
theorem gJ (s:ByteArray) (w:World) (hs:s.size≤10000000):Calls Tryz.prog 87 #[.string s] w (pk w s):=by
 by_cases hg:∃ t,ck s t
 ·obtain⟨t,ht⟩:=hg
  have hI:=fp.2 ⟨t,ht⟩;have HR:=hid (AH t s w ht);have HT:=hid (fun v w2 (hv:Nds w2 v t.enc)=>eI t ht.1 (by have:=ht.2.2;omega) v w2 hv);have hl:=ht.2.2;have HB:=hid ht;have HI:=hid hI;clear ht hI;go_enter Tryz.func87,Tryz.ntmps87;go_wp2_with fail;refine HR.out.mono ?_;rintro e w1 ⟨v1,rfl,eE,k1⟩;have h9:Nds w1 v1 t.enc:=eE.nds qB;go_wp2_with fail;refine(HT.out v1 w1 h9).mono ?_;rintro e w2 ⟨s2,rfl,x6,k2⟩
  have he:(s2.toList==s.toList)=true:=by rw[dT,decide_eq_true_iff,x6,HB.out.2.1]
  go_wp2_with fail;refine bodyPost_ret (v:=.tuple #[v1,.bool true]) (by simp[results,Tryz.results87,go_sem]) rfl ?_;exact⟨v1,by rw[HI.out],k1.trans k2,fun u hu=>by rw[hu.inj HB.out];exact eE.keeps k2⟩
 ·have hI:ij s=false:=xX.2 (not_exists.1 hg)
  have HR:=hid (AG s w hs);have HN:Hid (∀ t,¬ck s t):=hid (not_exists.1 hg);have HI:=hid hI;clear hI hg;go_enter Tryz.func87,Tryz.ntmps87;go_wp2_with fail;refine HR.out.mono ?_;rintro e w1 (⟨j,c,hc,rfl,k1⟩ | ⟨v1,t1,x7,x9,x8,rfl,eE,k1⟩)
  ·have hc':(c==0)=false:=by simpa using hc
   go_wp2_with fail;refine bodyPost_ret (v:=.tuple #[.slice none 0 0,.bool false]) (by simp[results,Tryz.results87,go_sem]) rfl ?_;exact⟨_,by rw[HI.out],k1,fun u hu=>absurd hu (HN.out u)⟩
  ·have h9:Nds w1 v1 t1.enc:=eE.nds qB
   have HT:=hid (eI t1 x7 qB v1 w1 h9);go_wp2_with fail;refine HT.out.mono ?_;rintro e w2 ⟨s2,rfl,x6,k2⟩
   have he:(s2.toList==s.toList)=false:=by
    rw[dT,decide_eq_false_iff_not,x6];intro e;exact HN.out t1 ⟨x7,e.symm,x9⟩
   go_wp2_with fail;refine bodyPost_ret (v:=.tuple #[v1,.bool false]) (by simp[results,Tryz.results87,go_sem]) rfl ?_;exact⟨v1,by rw[HI.out],k1.trans k2,fun u hu=>absurd hu (HN.out u)⟩
theorem zV (s:ByteArray) (w:World) (hs:s.size≤10000000):Calls Tryz.prog 128 #[.string s] w (Hc w s):=by
 by_cases x9:s.size>200
 ·have hs':(s.size:Int)>200:=qB
  go_enter Tryz.func128,Tryz.ntmps128;go_wp2_with fail;refine bodyPost_ret (v:=.tuple #[.slice none 0 0,.int .i64 0,.int .i64 3]) (by simp[results,Tryz.results128,go_sem]) rfl ?_;exact Or.inl ⟨0,3,qC,rfl,aa.refl _⟩
 ·have hs':¬((s.size:Int)>200):=qB
  have h0:=cG.new w s 185 qB;have HR:=hid ((Cd s.size).1 _ _ s 0 false h0 hs qB);have k0:=(aa.refl w).alloc (.cells #[.string s,.int .i64 0,.bool false] 185);clear h0;go_enter Tryz.func128,Tryz.ntmps128;go_wp2_with fail;refine HR.out.mono ?_;rintro e w1 ⟨v1,t1,j1,b1,rfl,H8,eE,h1,KP,KR,g1⟩;have kw:=k0.grown g1 (fun k hk=>by cases hk;exact zm _);obtain⟨c0,c1,c2,f1,f2,le,sz⟩:=h1
  obtain⟨p1,n1,q1,rfl⟩:∃ p n c,v1=.slice p n c:=by obtain⟨p,c,e,_⟩:=At.of_own eE;exact⟨p,_,c,e⟩
  have x7:n1=t1.enc.length:=by obtain⟨p,c,e,_⟩:=At.of_own eE;cases e;rfl
  have x6:=hid x7;clear x7;have x8:=hid eE;clear eE
  cases b1 with
  | true=>
   go_wp2_with fail
   go_quiet (fail)
   go_wp2_with fail;refine bodyPost_ret (v:=.tuple #[.slice none 0 0,.int .i64 j1,.int .i64 6]) (by simp[results,Tryz.results128,go_sem]) rfl ?_;exact Or.inl ⟨j1,6,qC,rfl,kw.drewN _⟩
  | false=>
   by_cases KS:j1<s.size
   ·have h9:decide ((j1:Int)<s.size)=true:=by simp;omega
    go_wp2_with fail
    go_quiet (fail)
    go_wp2_with fail;refine bodyPost_ret (v:=.tuple #[.slice none 0 0,.int .i64 j1,.int .i64 6]) (by simp[results,Tryz.results128,go_sem]) rfl ?_;exact Or.inl ⟨j1,6,qC,rfl,kw.drewN _⟩
   ·have h9:decide ((j1:Int)<s.size)=false:=by simp;omega
    by_cases H9:t1.enc.length>40
    ·have H7:(n1:Int)>40:=by have:=x6.out;omega
     go_wp2_with fail;refine bodyPost_ret (v:=.tuple #[.slice none 0 0,.int .i64 0,.int .i64 3]) (by simp[results,Tryz.results128,go_sem]) rfl ?_;exact Or.inl ⟨0,3,qC,rfl,kw⟩
    ·have H7:¬((n1:Int)>40):=by have:=x6.out;omega
     go_wp2_with fail;refine bodyPost_ret (v:=.tuple #[.slice p1 n1 q1,.int .i64 0,.int .i64 0]) (by simp[results,Tryz.results128,go_sem]) rfl ?_;exact Or.inr ⟨_,t1,H8,qB,qB,rfl,x8.out.mono qD,kw⟩
def Je (w:World) (e:Ending) (w':World):Prop:=
 (e=.returned (.slice none 0 0)∧aa w w')∨(∃ (v:Value) (t:Fm),t.wf∧t.enc.length≤40∧e=.returned v∧aU w' w.heap.size v t.enc∧aa w w')
theorem Gy (s:ByteArray) (w:World) (hs:s.size≤10000000):Calls Tryz.prog 82 #[.string s] w (Je w):=by
 have HR:=hid (zV s w hs);clear hs;go_enter Tryz.func82,Tryz.ntmps82;go_wp2_with fail;refine HR.out.mono ?_;rintro e w1 (⟨j,c,hc,rfl,k1⟩ | ⟨v1,t1,x7,h9,eE,rfl,x6,k1⟩)
 ·go_wp2_with fail
  go_ret;exact Or.inl ⟨rfl,k1⟩
 ·go_wp2_with fail
  go_ret;exact Or.inr ⟨_,t1,x7,h9,rfl,x6,k1⟩
theorem lA (t:Fm) (s:ByteArray) (w:World) (h:ck s t):Calls Tryz.prog 82 #[.string s] w (jh w t.enc):=
 An t h.1 s w h.2.1 h.small h.2.2
theorem Bp (s:ByteArray) (w:World) (hs:s.size≤10000000):Calls Tryz.prog 126 #[.string s] w fun e w'=>e=.returned (.bool (ij s))∧aa w w':=by
 by_cases hg:∃ t,ck s t
 ·obtain⟨t,ht⟩:=hg
  have hI:=fp.2 ⟨t,ht⟩;have HR:=hid (lA t s w ht);have HT:=hid (fun v w2 (hv:Nds w2 v t.enc)=>gR t ht.1 (by have:=ht.2.2;omega) v w2 hv);have hl:=ht.2.2;have hp:=Fm.enc_pos t;have HB:=hid ht;have HI:=hid hI;clear ht hI;go_enter Tryz.func126,Tryz.ntmps126;go_wp2_with fail;refine HR.out.mono ?_;rintro e w1 ⟨v1,rfl,x7,k1⟩;have eE:Nds w1 v1 t.enc:=x7.nds qB;have h9:=hid (HT.out v1 w1 eE);obtain⟨b1,o1,n1,c1,rfl,_⟩:=eE.root;go_wp2_with fail;refine h9.out.mono ?_;rintro e w2 ⟨s2,rfl,x6,k2⟩
  have he:(s2.toList==s.toList)=true:=by rw[dT,decide_eq_true_iff,x6,HB.out.2.1]
  go_wp2_with fail;go_ret;exact⟨ab (by rw[HI.out]),k1.trans k2⟩
 ·have hI:ij s=false:=xX.2 (not_exists.1 hg)
  have HR:=hid (Gy s w hs);have HN:Hid (∀ t,¬ck s t):=hid (not_exists.1 hg);have HI:=hid hI;clear hI hg;go_enter Tryz.func126,Tryz.ntmps126;go_wp2_with fail;refine HR.out.mono ?_;rintro e w1 (⟨rfl,k1⟩ | ⟨v1,t1,x8,x9,rfl,x7,k1⟩)
  ·go_wp2_with fail
   go_ret;exact⟨ab (by rw[HI.out]),k1⟩
  ·have eE:Nds w1 v1 t1.enc:=x7.nds qB
   have h9:=hid (gR t1 x8 qB v1 w1 eE);have hp:=Fm.enc_pos t1;obtain⟨b1,o1,n1,c1,rfl,_⟩:=eE.root;go_wp2_with fail;refine h9.out.mono ?_;rintro e w2 ⟨s2,rfl,x6,k2⟩
   have he:(s2.toList==s.toList)=false:=by
    rw[dT,decide_eq_false_iff_not,x6];intro e;exact HN.out t1 ⟨x8,e.symm,x9⟩
   go_wp2_with fail;go_ret;exact⟨ab (by rw[HI.out]),k1.trans k2⟩
end
def ff (G:List Fm):Prop:=∀ a∈G,a.wf∧a.enc.length≤40
def iz (G:List Fm):List Fm:=G.flatMap aC
theorem lI {G:List Fm} (h:ff G):ff (iz G):=by
 intro x hx;obtain⟨a,ha,hx⟩:=List.mem_flatMap.1 hx;exact⟨nP (h a ha).1 x hx,zx (nO x hx) (h a ha).2⟩
def dX (G:List Fm):List ByteArray:=(du ((iz G).map Fm.body)).map mkS
theorem yS (G:List Fm):(dX G).map bts=du ((iz G).map Fm.body):=by
 unfold dX;rw[List.map_map]
 conv=>rhs;rw[←List.map_id (du _)]
 apply List.map_congr_left;intro b _;exact gU b
theorem E6 (G:List Fm):Asc ((dX G).map bts):=by rw[yS];exact oO _
theorem uO {G:List Fm} {z:List UInt8}:z∈(dX G).map bts↔∃ x∈iz G,z=x.body:=by
 rw[yS,oP,List.mem_map];exact⟨fun ⟨x,h1,h2⟩=>⟨x,h1,h2.symm⟩,fun ⟨x,h1,h2⟩=>⟨x,h1,h2.symm⟩⟩
theorem fS:∀ {r q:List ByteArray},r.map bts=q.map bts→r=q
 | [],[],_=>rfl
 | [],_::_,h=>by simp at h
 | _::_,[],h=>by simp at h
 | x::r,y::q,h=>by
  simp only[List.map_cons,List.cons.injEq] at h;rw[da h.1,fS h.2]
theorem wT {G:List Fm} (hG:ff G) {s:ByteArray} (h:s∈dX G):∃ t,t∈iz G∧ck s t:=by
 obtain⟨x,hx,he⟩:=uO.1 (List.mem_map_of_mem (f:=bts) h);exact⟨x,hx,(lI hG x hx).1,he,(lI hG x hx).2⟩
noncomputable def txF (s:ByteArray):Fm:=@dite _ (∃ t,ck s t) (Classical.propDecidable _) (fun h=>Classical.choose h) (fun _=>.fls)
theorem gi {s:ByteArray} {t:Fm} (h:ck s t):txF s=t:=by
 unfold txF;rw[dif_pos ⟨t,h⟩];exact(Classical.choose_spec (⟨t,h⟩:∃ t,ck s t)).inj h
theorem gq {s:ByteArray} (h:∃ t,ck s t):ck s (txF s):=by
 obtain⟨t,ht⟩:=h;rw[gi ht];exact ht
noncomputable def elT (G:List Fm):List ByteArray:=(dX G).filter fun s=>fk (txF s)
noncomputable def elF (G:List Fm):List Fm:=(elT G).map txF
theorem uX {G:List Fm} (hG:ff G) {s:ByteArray} (h:s∈elT G):ck s (txF s):=by
 obtain⟨t,_,ht⟩:=wT hG (List.mem_filter.1 h).1;exact gq ⟨t,ht⟩
theorem qQ (G:List Fm):(elF G).length=(elT G).length:=by simp[elF]
theorem A7 {G:List Fm} {i:Nat} (h:i<(elF G).length):(elF G)[i]=txF ((elT G)[i]'(by rw[qQ] at h;exact h)):=by simp[elF]
theorem xA {G:List Fm} (hG:ff G):ff (elF G):=by
 intro x hx;obtain⟨s,hs,rfl⟩:=List.mem_map.1 hx;exact⟨(uX hG hs).1,(uX hG hs).2.2⟩
theorem lk {G:List Fm} (hG:ff G) {x:Fm}:x∈elF G↔x∈iz G∧fk x=true:=by
 constructor
 ·intro h
  obtain⟨s,hs,rfl⟩:=List.mem_map.1 h;have h1:=List.mem_filter.1 hs;obtain⟨t,ht,eE⟩:=wT hG h1.1;have h2:=h1.2;rw[gi eE] at h2 ⊢;exact⟨ht,h2⟩
 ·rintro⟨h1,h2⟩
  have h3:=(uO (G:=G)).2 ⟨x,h1,rfl⟩;obtain⟨s,hs,he⟩:=List.mem_map.1 h3;have eE:ck s x:=⟨(lI hG x h1).1,he,(lI hG x h1).2⟩;refine List.mem_map.2 ⟨s,List.mem_filter.2 ⟨hs,?_⟩,gi eE⟩;rw[gi eE];exact h2
noncomputable def mW (ss:List ByteArray) (i:Nat):Bool:=ij (ss.getD i ⟨#[]⟩)&&(i==0||decide (bts (ss.getD (i-1) ⟨#[]⟩)<bts (ss.getD i ⟨#[]⟩)))
noncomputable def eY (ss:List ByteArray):Bool:=(List.range ss.length).all (mW ss)
def aW (ss:List ByteArray):Prop:=(∀ s∈ss,∃ t,ck s t)∧Asc (ss.map bts)
theorem BH {ss:List ByteArray} (h:eY ss=true):aW ss:=by
 unfold eY at h;rw[zt] at h
 have h1:∀ i,i<ss.length→mW ss i=true:=fun i hi=>h i (List.mem_range.2 hi)
 have hg:∀ i (hi:i<ss.length),ss.getD i ⟨#[]⟩=ss[i]:=fun i hi=>by rw[zi,zn hi];rfl
 refine⟨fun s hs=>?_,?_⟩
 ·obtain⟨i,hi,rfl⟩:=List.getElem_of_mem hs
  have:=h1 i hi;unfold mW at this;rw[zk,hg i hi] at this;exact fp.1 this.1
 ·have step:∀ i,i+1<ss.length→bts (ss.getD i ⟨#[]⟩)<bts (ss.getD (i+1) ⟨#[]⟩):=fun i hi=>by
   have:=h1 (i+1) hi;unfold mW at this;rw[zk,Bool.or_eq_true] at this
   rcases this.2 with e | e
   ·simp at e
   ·simpa using of_decide_eq_true e
  have far:∀ d i,i+d+1<ss.length→bts (ss.getD i ⟨#[]⟩)<bts (ss.getD (i+d+1) ⟨#[]⟩):=by
   intro d
   induction d with
   | zero=>intro i hi;exact step i hi
   | succ d ih=>intro i hi;exact jc (ih i qB) (step (i+d+1) hi)
  unfold Asc;rw[List.pairwise_iff_getElem];intro i j hi hj eE;simp only[List.length_map] at hi hj;have:=far (j-i-1) i qB;rw[show i+(j-i-1)+1=j by omega,hg i hi,hg j hj] at this
  simpa using this
noncomputable def isQ (ss tt:List ByteArray):Bool:=decide (ss.length≤16)&&decide (tt.length≤16)&&eY ss&&eY tt
theorem dx {ss tt:List ByteArray} (h:isQ ss tt=true):ss.length≤16∧tt.length≤16∧aW ss∧aW tt:=by
 unfold isQ at h;rw[zk,zk,zk,decide_eq_true_eq,decide_eq_true_eq] at h;exact⟨h.1.1.1,h.1.1.2,BH h.1.2,BH h.2⟩
noncomputable def fmL (ss:List ByteArray):List Fm:=ss.map txF
theorem ll (ss:List ByteArray):(fmL ss).length=ss.length:=by simp[fmL]
theorem cZ {ss:List ByteArray} (h:aW ss):ff (fmL ss):=by
 intro x hx;obtain⟨s,hs,rfl⟩:=List.mem_map.1 hx;have:=gq (h.1 s hs);exact⟨this.1,this.2.2⟩
theorem eN (ss tt:List ByteArray):fmL (ss++tt)=fmL ss++fmL tt:=by simp[fmL]
theorem ff.append {G H:List Fm} (h:ff G) (k:ff H):ff (G++H):=fun a ha=>(List.mem_append.1 ha).elim (h a) (k a)
section
open Go.RowKit
theorem BB {ss:List ByteArray} {i:Nat} (h:i<ss.length):mW ss i=(ij ss[i]&&(decide (i=0)||Op.bytesLess (ss[i-1]'qB).toList ss[i].toList)):=by
 have hg:∀ i (hi:i<ss.length),ss.getD i ⟨#[]⟩=ss[i]:=fun i hi=>by rw[zi,zn hi];rfl
 unfold mW;rw[hg i h,hg (i-1) qB,ks];rfl
theorem sV {ss:List ByteArray} {i:Nat} (h:i<ss.length) (hf:mW ss i=false):eY ss=false:=by
 unfold eY;rw[Bool.eq_false_iff];intro h2;have:=List.all_eq_true.1 h2 i (List.mem_range.2 h);rw[hf] at this;cases this
theorem uJ {ss:List ByteArray} (h:∀ i,i<ss.length→mW ss i=true):eY ss=true:=by
 unfold eY;rw[zt];intro i hi;exact h i (List.mem_range.1 hi)
theorem Kk (y x:ByteArray):(Op.bytesLess y.toList x.toList=true∧Op.bytesLess x.toList y.toList=false∧(x.toList==y.toList)=false)∨
  (Op.bytesLess y.toList x.toList=false∧Op.bytesLess x.toList y.toList=false∧(x.toList==y.toList)=true)∨(Op.bytesLess y.toList x.toList=false∧Op.bytesLess x.toList y.toList=true∧(x.toList==y.toList)=false):=by
 rw[ks,ks,dT]
 by_cases h1:bts y<bts x
 ·left
  exact⟨decide_eq_true h1,decide_eq_false (fun h=>ek _ (jc h1 h)),decide_eq_false (fun e=>by rw[e] at h1;exact ek _ h1)⟩
 ·right
  by_cases h2:bts x=bts y
  ·left
   exact⟨decide_eq_false h1,decide_eq_false (by rw[h2];exact ek _),decide_eq_true h2⟩
  ·right
   exact⟨decide_eq_false h1,decide_eq_true (rm h1 (Ne.symm h2)),decide_eq_false h2⟩
def Mid (ss:List ByteArray):Prop:=∀ s∈ss,s.size≤10000000
theorem rW (ss:List ByteArray) (v:Value) (w:World) (hv:au w v ss) (hs:Mid ss):
  Calls Tryz.prog 78 #[v] w fun e w'=>e=.returned (.bool (eY ss))∧aa w w':=by
 obtain⟨p,cap,rfl,KV,KT,KS⟩:=hv.shape;unfold maxLen at KT;have HV:=hid hv;clear hv;have KP:=hid (fun i (h:i<ss.length) wz=>Bp ss[i] wz (hs _ (zo h)));have H9:=hid (fun i (h:i<ss.length)=>BB h);have HF:=hid (fun i (h:i<ss.length)=>sV h);have HT:=hid (uJ (ss:=ss));clear hs;generalize eY ss=sb at*;go_enter Tryz.func78,Tryz.ntmps78;go_wp2
 go_loopw [2,7] (fun r i' wr=>∃ i:Nat,i≤ss.length∧i'=.int .i64 i∧r=.bool false∧(∀ j,j<i→mW ss j=true)∧aa w wr) (fun _ i' _=>ss.length-(intOf i').toNat)
 case atStart=>exact⟨0,qB,rfl,rfl,fun j h=>by omega,aa.refl _⟩
 case round=>
  obtain⟨i,hi,rfl,rfl,x7,kw⟩:=hrel;have HA:=hid x7;clear x7
  by_cases x8:i<ss.length
  ·have H7:(i:Int)<ss.length:=qB
   obtain⟨b1,o1,rfl,h1⟩:=(HV.out.keeps kw).get i x8;have h9:=hid (KP.out i x8 wr);have eE:=H9.out i x8
   cases ht:ij ss[i]
   ·rw[ht] at h9 eE
    have x9:=HF.out i x8 (by rw[eE];rfl);have x6:=hid x9;clear x9 eE ht;generalize ss[i]=x at*;go_wp2_with fail;refine h9.out.mono ?_;rintro e w2 ⟨rfl,k2⟩;go_wp2_with fail;go_ret;exact⟨ab (by rw[x6.out]),kw.trans k2⟩
   ·rw[ht,Bool.true_and] at eE
    rw[ht] at h9;clear ht
    rcases Nat.eq_zero_or_pos i with rfl | hpos
    ·have HN:Hid (∀ j,j<0+1→mW ss j=true):=hid (fun j hj=>by
      obtain rfl:j=0:=qB
      rw[eE];simp)
     clear eE;rw[Nat.add_zero] at h1;generalize ss[0]=x at*;go_wp2_with fail;refine h9.out.mono ?_;rintro e w2 ⟨rfl,k2⟩;go_wp2_with fail;go_roundw
     case rel=>exact⟨0+1,qB,by go_num,rfl,HN.out,kw.trans k2⟩
     case measure=>simp[intOf];omega
    ·have hp':(i:Int)>0:=qB
     rw[decide_eq_false qB,Bool.false_or] at eE;have KR:i-1<ss.length:=qB;have H8:=hid (fun wz (kz:aa w wz)=>(HV.out.keeps kz).get (i-1) KR);have KU:(i:Int)-1=((i-1:Nat):Int):=qB
     cases hb:Op.bytesLess ss[i-1].toList ss[i].toList
     ·rw[hb] at eE
      have x9:=HF.out i x8 eE;have x6:=hid x9;clear x9 eE;generalize ss[i]=x at*;go_wp2_with fail;refine h9.out.mono ?_;rintro e w2 ⟨rfl,k2⟩;obtain⟨b2,o2,e2,h2⟩:=H8.out w2 (kw.trans k2)
      cases e2
      generalize ss[i-1]=y at*;go_wp2_with fail;go_ret;exact⟨ab (by rw[x6.out]),kw.trans k2⟩
     ·rw[hb] at eE
      have HN:Hid (∀ j,j<i+1→mW ss j=true):=hid (fun j hj=>by
       by_cases e:j=i
       ·subst e;exact eE
       ·exact HA.out j qB)
      clear eE;generalize ss[i]=x at*;go_wp2_with fail;refine h9.out.mono ?_;rintro e w2 ⟨rfl,k2⟩;obtain⟨b2,o2,e2,h2⟩:=H8.out w2 (kw.trans k2)
      cases e2
      generalize ss[i-1]=y at*;go_wp2_with fail;go_roundw
      case rel=>exact⟨i+1,qB,by go_num,rfl,HN.out,kw.trans k2⟩
      case measure=>simp[intOf];omega
  ·obtain rfl:i=ss.length:=qB
   have H7:¬((ss.length:Int)<ss.length):=qB;have x6:=hid (HT.out HA.out);go_wp2_with fail;go_ret;exact⟨ab (by rw[x6.out]),kw⟩
theorem pP (ss:List ByteArray) (v:Value) (w:World) (hv:au w v ss) (hs:Mid ss):
  Calls Tryz.prog 83 #[v] w fun e w'=>e=.returned (.bool (decide (ss.length≤16)&&eY ss))∧aa w w':=by
 obtain⟨p,cap,rfl,K0,KY,KV⟩:=hv.shape;unfold maxLen at KY;have HV:=hid hv;clear hv;have KT:=hid (fun i (h:i<ss.length) wz=>gJ ss[i] wz (hs _ (zo h)));have KS:=hid (fun i (h:i<ss.length)=>BB h);have HF:=hid (fun i (h:i<ss.length)=>sV h);have HT:=hid (uJ (ss:=ss));clear hs;generalize eY ss=sb at*
 by_cases KR:ss.length≤16
 ·rw[decide_eq_true KR,Bool.true_and]
  have H9:¬((ss.length:Int)>16):=qB;go_enter Tryz.func83,Tryz.ntmps83;go_wp2
  go_loopw [2,3] (fun r i' wr=>∃ i:Nat,i≤ss.length∧i'=.int .i64 i∧r=.bool false∧(∀ j,j<i→mW ss j=true)∧aa w wr) (fun _ i' _=>ss.length-(intOf i').toNat)
  case atStart=>exact⟨0,qB,rfl,rfl,fun j h=>by omega,aa.refl _⟩
  case round=>
   obtain⟨i,hi,rfl,rfl,x9,kw⟩:=hrel;have HA:=hid x9;clear x9
   by_cases x8:i<ss.length
   ·have KP:(i:Int)<ss.length:=qB
    obtain⟨b1,o1,rfl,h1⟩:=(HV.out.keeps kw).get i x8;have x7:=hid (KT.out i x8 wr);have eE:=KS.out i x8
    cases ht:ij ss[i]
    ·unfold pk at x7
     rw[ht] at eE;have h9:=HF.out i x8 (by rw[eE];rfl);have x6:=hid h9;clear h9 eE;generalize ss[i]=x at*;go_wp2_with fail;refine x7.out.mono ?_;rintro e w2 ⟨vg,rfl,k2,_⟩;rw[ht];go_wp2_with fail
     go_quiet (fail)
     go_wp2_with fail;go_ret;exact⟨ab (by rw[x6.out]),(kw.trans k2).drewN _⟩
    ·unfold pk at x7
     rw[ht,Bool.true_and] at eE
     rcases Nat.eq_zero_or_pos i with rfl | hpos
     ·have HN:Hid (∀ j,j<0+1→mW ss j=true):=hid (fun j hj=>by
       obtain rfl:j=0:=qB
       rw[eE];simp)
      clear eE;rw[Nat.add_zero] at h1;generalize ss[0]=x at*;go_wp2_with fail;refine x7.out.mono ?_;rintro e w2 ⟨vg,rfl,k2,_⟩;rw[ht];go_wp2_with fail
      go_quiet (fail)
      go_wp2_with fail;go_roundw
      case rel=>exact⟨0+1,qB,by go_num,rfl,HN.out,(kw.trans k2).drewN _⟩
      case measure=>simp[intOf];omega
     ·have hp':(i:Int)>0:=qB
      rw[decide_eq_false qB,Bool.false_or] at eE;have KU:i-1<ss.length:=qB;have H8:=hid (fun wz (kz:aa w wz)=>(HV.out.keeps kz).get (i-1) KU);have H7:=hid (fun wz (kz:aa w wz)=>(HV.out.keeps kz).get i x8);have KZ:(i:Int)-1=((i-1:Nat):Int):=qB
      rcases Kk ss[i-1] ss[i] with ⟨hb,hl,he⟩ | ⟨hb,hl,he⟩ | ⟨hb,hl,he⟩
      ·rw[hb] at eE
       have HN:Hid (∀ j,j<i+1→mW ss j=true):=hid (fun j hj=>by
        by_cases e:j=i
        ·subst e;exact eE
        ·exact HA.out j qB)
       clear eE;go_wp2_with fail;refine x7.out.mono ?_;rintro e w2 ⟨vg,rfl,k2,_⟩;rw[ht];obtain⟨b2,o2,e2,h2⟩:=H8.out w2 (kw.trans k2)
       cases e2
       obtain⟨b3,o3,e3,h3⟩:=H7.out w2 (kw.trans k2)
       cases e3
       generalize ss[i-1]=y at*;generalize ss[i]=x at*;go_wp2_with fail
       go_quiet (fail)
       go_wp2_with fail;go_roundw
       case rel=>exact⟨i+1,qB,by go_num,rfl,HN.out,(kw.trans k2).drewN _⟩
       case measure=>simp[intOf];omega
      ·rw[hb] at eE
       have h9:=HF.out i x8 eE;have x6:=hid h9;clear h9 eE;go_wp2_with fail;refine x7.out.mono ?_;rintro e w2 ⟨vg,rfl,k2,_⟩;rw[ht];obtain⟨b2,o2,e2,h2⟩:=H8.out w2 (kw.trans k2)
       cases e2
       obtain⟨b3,o3,e3,h3⟩:=H7.out w2 (kw.trans k2)
       cases e3
       generalize ss[i-1]=y at*;generalize ss[i]=x at*;go_wp2_with fail
       go_quiet (fail)
       go_wp2_with fail;go_ret;exact⟨ab (by rw[x6.out]),(kw.trans k2).drewN _⟩
      ·rw[hb] at eE
       have h9:=HF.out i x8 eE;have x6:=hid h9;clear h9 eE;go_wp2_with fail;refine x7.out.mono ?_;rintro e w2 ⟨vg,rfl,k2,_⟩;rw[ht];obtain⟨b2,o2,e2,h2⟩:=H8.out w2 (kw.trans k2)
       cases e2
       obtain⟨b3,o3,e3,h3⟩:=H7.out w2 (kw.trans k2)
       cases e3
       generalize ss[i-1]=y at*;generalize ss[i]=x at*;go_wp2_with fail
       go_quiet (fail)
       go_wp2_with fail;go_ret;exact⟨ab (by rw[x6.out]),(kw.trans k2).drewN _⟩
   ·obtain rfl:i=ss.length:=qB
    have KP:¬((ss.length:Int)<ss.length):=qB;have x6:=hid (HT.out HA.out);go_wp2_with fail;go_ret;exact⟨ab (by rw[x6.out]),kw⟩
 ·rw[decide_eq_false KR,Bool.false_and]
  have H9:(ss.length:Int)>16:=qB;go_enter Tryz.func83,Tryz.ntmps83;go_wp2;go_ret;exact⟨rfl,aa.refl _⟩
theorem BoxQ.made (w:World) (v u:Value) (T:TypeId):(w.alloc (.cells #[v,u] T)).cell? ⟨w.heap.size,0,none⟩=some v∧(w.alloc (.cells #[v,u] T)).cell? ⟨w.heap.size,1,none⟩=some u:=by
 constructor<;>simp
theorem eO (ss tt:List ByteArray) (v u:Value) (w:World) (hv:au w v ss) (hu:au w u tt) (hs:Mid ss) (ht:Mid tt):
  Calls Tryz.prog 35 #[.agg #[v,u]] w fun e w'=>e=.returned (.bool (isQ ss tt))∧aa w w':=by
 have kA:=(aa.refl w).alloc (.cells #[v,u] 29);obtain⟨c0,c1⟩:=BoxQ.made w v u 29;have HS:=hid (fun wz (kz:aa w wz)=>rW ss v wz (hv.keeps kz) hs);have HT:=hid (fun wz (kz:aa w wz)=>rW tt u wz (hu.keeps kz) ht);have HQ:Hid (isQ ss tt=(decide (ss.length≤16)&&decide (tt.length≤16)&&eY ss&&eY tt)):=hid rfl;obtain⟨p,cap,rfl,x7,x6,_⟩:=hv.shape;obtain⟨q,cap2,rfl,h9,eE,_⟩:=hu.shape;unfold maxLen at x6 eE;clear hs ht;generalize eY ss=a at*;generalize eY tt=b at*
 by_cases h1:ss.length≤16
 ·have h1':(ss.length:Int)≤16:=qB
  by_cases h2:tt.length≤16
  ·have h2':(tt.length:Int)≤16:=qB
   rw[decide_eq_true h1,decide_eq_true h2] at HQ
   cases a
   ·go_enter Tryz.func35,Tryz.ntmps35
    go_wp2_with fail;refine(HS.out _ kA).mono ?_;rintro e w2 ⟨rfl,k2⟩;go_wp2_with fail;go_ret;exact⟨ab (by rw[HQ.out];rfl),kA.trans k2⟩
   ·go_enter Tryz.func35,Tryz.ntmps35
    go_wp2_with fail;refine(HS.out _ kA).mono ?_;rintro e w2 ⟨rfl,k2⟩
    replace c0:=k2.cell c0
    replace c1:=k2.cell c1
    go_wp2_with fail;refine(HT.out _ (kA.trans k2)).mono ?_;rintro e w3 ⟨rfl,k3⟩;go_wp2_with fail;go_ret;exact⟨ab (by rw[HQ.out];cases b<;>rfl),(kA.trans k2).trans k3⟩
  ·have h2':¬((tt.length:Int)≤16):=qB
   rw[decide_eq_true h1,decide_eq_false h2] at HQ;go_enter Tryz.func35,Tryz.ntmps35;go_wp2_with fail;go_ret;exact⟨ab (by rw[HQ.out];rfl),kA⟩
 ·have h1':¬((ss.length:Int)≤16):=qB
  rw[decide_eq_false h1] at HQ;go_enter Tryz.func35,Tryz.ntmps35;go_wp2_with fail;go_ret;exact⟨ab (by rw[HQ.out];rfl),kA⟩
theorem uB (ss tt:List ByteArray) (v u:Value) (w:World) (hv:au w v ss) (hu:au w u tt) (hs:Mid ss) (ht:Mid tt):
  Calls Tryz.prog 40 #[.agg #[v,u]] w fun e w'=>e=.returned (.bool (isQ ss tt))∧aa w w':=by
 have kA:=(aa.refl w).alloc (.cells #[v,u] 29);obtain⟨c0,c1⟩:=BoxQ.made w v u 29;have HS:=hid (fun wz (kz:aa w wz)=>pP ss v wz (hv.keeps kz) hs);have HT:=hid (fun wz (kz:aa w wz)=>pP tt u wz (hu.keeps kz) ht);have HQ:Hid (isQ ss tt=(decide (ss.length≤16)&&decide (tt.length≤16)&&eY ss&&eY tt)):=hid rfl;obtain⟨p,cap,rfl,x6,x7,_⟩:=hv.shape;obtain⟨q,cap2,rfl,eE,h9,_⟩:=hu.shape;clear hs ht;generalize eY ss=a at*;generalize eY tt=b at*;generalize decide (ss.length≤16)=a1 at*;generalize decide (tt.length≤16)=b1 at*;have HE:Hid (isQ ss tt=((a1&&a)&&(b1&&b))):=hid (by rw[HQ.out];cases a1<;>cases b1<;>cases a<;>cases b<;>rfl);clear HQ;generalize (a1&&a)=a at*;generalize (b1&&b)=b at*
 cases a
 ·go_enter Tryz.func40,Tryz.ntmps40
  go_wp2_with fail;refine(HS.out _ kA).mono ?_;rintro e w2 ⟨rfl,k2⟩;go_wp2_with fail;go_ret;exact⟨ab (by rw[HE.out];rfl),kA.trans k2⟩
 ·go_enter Tryz.func40,Tryz.ntmps40
  go_wp2_with fail;refine(HS.out _ kA).mono ?_;rintro e w2 ⟨rfl,k2⟩
  replace c0:=k2.cell c0
  replace c1:=k2.cell c1
  go_wp2_with fail;refine(HT.out _ (kA.trans k2)).mono ?_;rintro e w3 ⟨rfl,k3⟩;go_wp2_with fail;go_ret;exact⟨ab (by rw[HE.out];cases b<;>rfl),(kA.trans k2).trans k3⟩
theorem vq (ss tt:List ByteArray) (v u:Value) (w:World) (hv:au w v ss) (hu:au w u tt) (hl:ss.length+tt.length≤1000000):
  Calls Tryz.prog 117 #[.agg #[v,u]] w (AT w (ss++tt)):=by
 have kA:=(aa.refl w).alloc (.cells #[v,u] 29);obtain⟨c0,c1⟩:=BoxQ.made w v u 29;have hC:=pD [ss,tt] _ _ (tA.lit2 (hv.keeps kA) (hu.keeps kA)) (by simp[fl];omega);rw[show fl [ss,tt] [ss,tt].length=ss++tt from by simp[fl]] at hC;rw[show(w.alloc (.cells #[v,u] 29)).heap.size=w.heap.size+1 by simp] at hC;have HC:=hid hC;clear hC;have kL:=kA.alloc (.cells #[v,u] 27);obtain⟨p,c,rfl,_⟩:=hv.shape;obtain⟨q,c2,rfl,_⟩:=hu.shape;clear hv hu;go_enter Tryz.func117,Tryz.ntmps117;go_wp2_with fail;refine HC.out.mono ?_;rintro e w2 ⟨v2,rfl,eE,k2⟩;go_wp2_with fail;go_ret;exact⟨_,rfl,eE.mono kL.size,kL.trans k2⟩
theorem rG {G:List Fm} (h:ff G):tot (G.map Fm.enc)≤40*G.length:=by
 induction G with
 | nil=>simp[tot]
 | cons a l ih=>
  have h1:=ih (fun x hx=>h x (zw _ hx));have h2:=(h a (List.mem_cons_self ..)).2;have:tot ((a::l).map Fm.enc)=a.enc.length+tot (l.map Fm.enc):=rfl;rw[this,zh];omega
theorem dZ (ss:List ByteArray) (hs:∀ s∈ss,∃ t,ck s t) (v:Value) (w:World) (hv:au w v ss):
  Calls Tryz.prog 39 #[v] w (Ji w ((fmL ss).map Fm.enc)):=by
 obtain⟨p,cap,rfl,KZ,KS,KR⟩:=hv.shape;unfold maxLen at KS;have HV:=hid hv;clear hv;have HP:=hid (fun i (h:i<ss.length) wz=>lA (txF ss[i]) ss[i] wz (gq (hs _ (zo h))))
 have H8:Hid (∀ i (h:i<ss.length),((fmL ss).map Fm.enc).take (i+1)=((fmL ss).map Fm.enc).take i++[(txF ss[i]).enc]):=hid (fun i h=>by
  rw[zq (by simp[fmL,h])]
  simp[fmL])
 have x9:Hid (∀ i,(((fmL ss).map Fm.enc).take i).length≤ss.length):=hid (fun i=>by rw[List.length_take,List.length_map,ll];exact Nat.min_le_right _ _);have x8:Hid (((fmL ss).map Fm.enc).take ss.length=(fmL ss).map Fm.enc):=hid (List.take_of_length_le (by simp[fmL]));clear hs;go_enter Tryz.func39,Tryz.ntmps39;go_wp2
 go_loopw [3,8] (fun o i' wr=>∃ k:Nat,k≤ss.length∧i'=.int .i64 k∧fN wr w.heap.size o (((fmL ss).map Fm.enc).take k)∧aa w wr) (fun _ i _=>ss.length-(intOf i).toNat)
 case atStart=>exact⟨0,qB,rfl,fN.nil _ _,aa.refl w⟩
 case round=>
  obtain⟨k,hk,rfl,eE,kw⟩:=hrel;have KU:=kw.size
  by_cases h9:k<ss.length
  ·have x6:(k:Int)<ss.length:=qB
   obtain⟨b1,o1,rfl,h1⟩:=(HV.out.keeps kw).get k h9;have H7:=hid (HP.out k h9 wr);have HT:=hid (H8.out k h9);have K0:=x9.out k;generalize (txF ss[k]).enc=y at*;generalize hL:((fmL ss).map Fm.enc).take k=L at*;have HL:=hid hL;clear hL;generalize ss[k]=x at*;go_wp2_with fail;refine H7.out.mono ?_;rintro e w2 ⟨v2,rfl,x7,k2⟩
   obtain⟨p2,n2,c2,rfl⟩:∃ p n c,v2=.slice p n c:=by obtain⟨p,c,e,_⟩:=At.of_own x7;exact⟨p,_,c,e⟩
   have k3:=k2.alloc (.cells #[.slice p2 n2 c2] 50);have KV:=x7.keeps ((aa.refl w2).alloc (.cells #[.slice p2 n2 c2] 50));have H9:=At.lit1 w2 (.slice p2 n2 c2) 50
   go_wp2_with (at_builtin;refine Jv rfl _ _ rfl w.heap.size _ L rfl wr eE k3 _ _ KV KU _ _ rfl H9 qB ?_;intro v4 w4 KY KP KT;have k4:=(kw.trans k3).grown KP KT)
   go_roundw
   case rel=>exact⟨k+1,qB,by go_num,by rw[HT.out];exact KY,k4⟩
   case measure=>simp[intOf];omega
  ·obtain rfl:k=ss.length:=qB
   have x6:¬((ss.length:Int)<ss.length):=qB;rw[x8.out] at eE;go_wp2;go_ret;exact⟨_,rfl,eE,kw⟩
def eR (G:List Fm) (k i:Nat):List ByteArray:=((iz (G.take k)++(aC (G.getD k .fls)).take i).map Fm.body).map mkS
theorem yY (G:List Fm):eR G 0 0=[]:=by simp[eR,iz]
theorem yX {G:List Fm} {k:Nat} (h:k<G.length):eR G k (G[k].enc.length)=eR G (k+1) 0:=by
 have hg:G.getD k .fls=G[k]:=by rw[zi,zn h];rfl
 unfold eR;rw[hg,←kY,List.take_length,zq h];simp only[iz,List.flatMap_append,List.flatMap_cons,List.flatMap_nil,List.append_nil,List.take_zero]
theorem yW {G:List Fm} {k i:Nat} (h:k<G.length) (hi:i<(aC G[k]).length):eR G k (i+1)=eR G k i++[mkS ((aC G[k])[i]).body]:=by
 have hg:G.getD k .fls=G[k]:=by rw[zi,zn h];rfl
 unfold eR;rw[hg,zq hi];simp only[List.map_append,List.map_cons,List.map_nil,zz]
theorem AM (G:List Fm):eR G G.length 0=((iz G).map Fm.body).map mkS:=by simp[eR]
theorem tk {G:List Fm} (h:ff G):(iz G).length≤40*G.length:=by
 induction G with
 | nil=>simp[iz]
 | cons a l ih=>
  have h1:=ih (fun x hx=>h x (zw _ hx));have h2:=(h a (List.mem_cons_self ..)).2
  have:iz (a::l)=aC a++iz l:=by simp[iz]
  rw[this,ze,kY,zh];omega
theorem AN {G:List Fm} (h:ff G) {k i:Nat} (_hk:k≤G.length):(eR G k i).length≤40*G.length+40:=by
 unfold eR;rw[List.length_map,List.length_map,ze];have h1:=tk (G:=G.take k) (fun x hx=>h x (List.mem_of_mem_take hx))
 have h2:((aC (G.getD k .fls)).take i).length≤40:=by
  rw[List.length_take];refine zx (Nat.min_le_right _ _) ?_;rw[kY]
  rcases Nat.lt_or_ge k G.length with hl | hl
  ·rw[zi,zn hl]
   exact(h _ (zo hl)).2
  ·rw[zi,List.getElem?_eq_none hl]
   simp[Fm.enc]
 rw[List.length_take] at h1;have:=Nat.min_le_left k G.length;have:min k G.length≤G.length:=Nat.min_le_right _ _;omega
theorem qG (G:List Fm) (hG:ff G) (hn:G.length≤1000) (v:Value) (w:World) (hv:bW w v (G.map Fm.enc)):
  Calls Tryz.prog 116 #[v] w (AT w (dX G)):=by
 obtain⟨p,cap,KU,Lk,Lm,Ll,_⟩:=id hv;rw[List.length_map] at KU Lk;subst KU;unfold maxLen at Lm;have HV:=hid hv;clear hv
 have x8:Hid (∀ k (h:k<G.length),∃ b off u,p=some ⟨b,off,none⟩∧w.cell? ⟨b,off+k,none⟩=some u∧Nds w u G[k].enc):=hid (fun k h=>by
  obtain⟨b,off,u,h1,h2,h3⟩:=HV.out.get k (by simpa using h)
  exact⟨b,off,u,h1,h2,by simpa using h3⟩)
 have Lb:Hid (∀ k (h:k<G.length) i (hi:i<(aC G[k]).length) u wz,Nds wz u G[k].enc→Calls Tryz.prog 162 #[u,.int .i64 (i:Int)] wz (BS wz ((aC G[k])[i]).enc)):=hid (fun k h i hi u wz hu=>by
  obtain⟨l,r,h1,h2⟩:=GL G[k] i hi
  exact sK _ l _ r u i wz hu h1 qB)
 have Lf:Hid (∀ k (h:k<G.length) i (hi:i<(aC G[k]).length) u wz,Nds wz u ((aC G[k])[i]).enc→Calls Tryz.prog 161 #[u] wz fun e w'=>∃ s,e=.returned (.string s)∧bts s=((aC G[k])[i]).body∧aa wz w'):=hid (fun k h i hi u wz hu=>by
  have hf:=hG _ (zo h);have hm:=zo hi
  exact gR _ (nP hf.1 _ hm) (by have:=nO _ hm;omega) u wz hu)
 have Lc:Hid (∀ k (h:k<G.length),(aC G[k]).length=G[k].enc.length):=hid (fun k h=>kY _);have KV:Hid (∀ k (h:k<G.length),G[k].enc.length≤40):=hid (fun k h=>(hG _ (zo h)).2);have HZ:=hid (yY G);have La:=hid (fun k (h:k<G.length)=>yX h);have K0:=hid (fun k (h:k<G.length) i (hi:i<(aC G[k]).length)=>yW h hi);have KZ:=hid (fun k i (hk:k≤G.length)=>AN hG (k:=k) (i:=i) hk);have KY:=hid (AM G)
 have Li:((iz G).map Fm.body).length≤1000000:=by rw[List.length_map];have:=tk hG;omega
 have Le:Hid (dX G=(du ((iz G).map Fm.body)).map mkS):=hid rfl;clear hG;go_enter Tryz.func116,Tryz.ntmps116;go_wp2
 go_loopw [3,9] (fun o k' wr=>∃ k:Nat,k≤G.length∧k'=.int .i64 k∧aA wr w.heap.size o (eR G k 0)∧aa w wr) (fun _ k' _=>G.length-(intOf k').toNat)
 case atStart=>exact⟨0,qB,rfl,by rw[HZ.out];exact aA.nil _ _,aa.refl _⟩
 case round=>
  obtain⟨k,hk,rfl,h9,kw⟩:=hrel
  by_cases x6:k<G.length
  ·have H8:(k:Int)<G.length:=qB
   obtain⟨b1,o1,u,rfl,KR,hu⟩:=x8.out k x6;have h1:=kw.cell KR;obtain⟨q1,n1,c1,rfl⟩:=hu.shape
   have KT:n1=G[k].enc.length:=by obtain⟨_,_,e,_⟩:=hu;cases e;rfl
   have Lh:=KV.out k x6;have HU:=hid hu;clear hu KR;have x9:=hid KT;clear KT
   have Ln:n1≤40:=by rw[x9.out];exact Lh
   have HO:=hid h9;clear h9;go_wp2
   go_loopw [3,15] (fun o i' wr'=>∃ i:Nat,i≤n1∧i'=.int .i64 i∧aA wr' w.heap.size o (eR G k i)∧aa w wr') (fun _ i' _=>n1-(intOf i').toNat)
   case atStart=>exact⟨0,qB,rfl,HO.out,kw⟩
   case round=>
    obtain⟨i,hi,rfl,eE,kk⟩:=hrel;clear h1
    by_cases H9:i<n1
    ·have x7:(i:Int)<n1:=qB
     have H7:i<(aC G[k]).length:=by rw[Lc.out k x6,←x9.out];exact H9
     have HP:=hid (Lb.out k x6 i H7 _ _ (HU.out.keeps kk));have HX:=hid (fun u' wz hz=>Lf.out k x6 i H7 u' wz hz);have HM:=hid (K0.out k x6 i H7);have Lt:=KZ.out k i hk;have Lw:=kk.size;generalize hT:eR G k i=T at*;have HT:=hid hT;clear hT;generalize (aC G[k])[i]=y at*;go_wp2_with fail;refine HP.out.mono ?_;rintro e w' ⟨v2,rfl,Lq,rfl⟩;have Lg:=hid (HX.out _ _ Lq);go_wp2_with fail;refine Lg.out.mono ?_;rintro e w3 ⟨s,rfl,hs,k3⟩
     have hs':mkS y.body=s:=by rw[←hs];exact qZ s
     have HS':=hid hs';clear hs' hs;have Lo:=eE.keeps k3;have Lu:=k3.size;clear eE
     go_wp2_with (at_builtin;refine iE rfl _ _ rfl w.heap.size _ T rfl (Lo.keeps ((aa.refl w3).alloc _)) _ [s] rfl (au.lit1 w3 _) (by simp;omega) (by simp;omega) ?_;intro v4 w4 Ls Lj Lp;have k4:=((kk.trans k3).alloc (.cells #[.string s] 9)).grown Lj (fun q hq=>Lp q hq))
     go_roundw
     case rel=>exact⟨i+1,qB,by go_num,by rw[HM.out,HS'.out];exact Ls,k4⟩
     case measure=>simp[intOf];omega
    ·obtain rfl:i=n1:=qB
     have x7:¬((i:Int)<i):=qB;have hx:=La.out k x6;rw[←x9.out] at hx;rw[hx] at eE;clear hx;go_wp2_with fail;go_roundw
     case rel=>exact⟨k+1,qB,by go_num,eE,kk⟩
     case measure=>simp[intOf];omega
  ·obtain rfl:k=G.length:=qB
   have H8:¬((G.length:Int)<G.length):=qB;rw[KY.out] at h9;have Ld:=hid (CO _ _ w wr h9 kw qB);clear h9;go_wp2_with fail;refine Ld.out.mono ?_;rintro e w2 ⟨rfl,KS⟩;have KP:Hid (C4 w ((iz G).map Fm.body) _ w2):=hid KS;clear KS;unfold C4 at KP;go_wp2_with fail;refine KP.out.mono ?_;rintro e w3 ⟨v3,rfl,Lr,k3⟩;go_wp2_with fail;go_ret;exact⟨_,rfl,by rw[Le.out];exact Lr,k3⟩
def Ki (w:World) (B N:Nat) (P:List UInt8→Prop) (e:Ending) (w':World):Prop:=
 ∃ b n c r,e=.returned (.slice (some b) n c)∧aA w' B (.slice (some b) n c) r∧Asc (r.map bts)∧(∀ z,z∈r.map bts↔P z)∧r.length≤N∧aa w w'
theorem iK {ss:List ByteArray} (s:ByteArray) (h:Asc (ss.map bts)):Asc ((ae ss s).map bts):=by rw[mG];exact rS _ h
theorem xV {ss:List ByteArray} {s:ByteArray} {z:List UInt8}:z∈(ae ss s).map bts↔z∈ss.map bts∨z=bts s:=by rw[mG];exact kh _ _ _
def InU (ss tt:List ByteArray) (z:List UInt8):Prop:=z∈ss.map bts∨z∈tt.map bts
theorem eX (ss:List ByteArray) (v:Value) (w:World) (hv:au w v ss) (hl:ss.length≤1000000):
  Calls Tryz.prog 26 #[v] w (xi w w.heap.size ss):=by
 have HV:=hid (fun wz (kz:aa w wz)=>hv.keeps kz);obtain⟨p,c,rfl,_⟩:=hv.shape;clear hv;go_enter Tryz.func26,Tryz.ntmps26
 go_wp2_with (at_builtin;refine JC rfl _ _ rfl w.heap.size _ [] rfl (aA.empty w) _ ss rfl (HV.out _ ((aa.refl w).alloc _)) qD (by simp;omega) ?_;intro v2 w2 eE h9 x7 x6;have k2:aa w w2:=((aa.refl w).alloc _).grown h9 (fun q hq=>x7 q hq))
 go_ret;obtain⟨g,q,rfl⟩:=eE.blk (fun e=>by cases x6 e);exact⟨_,_,_,rfl,by simpa using eE,k2⟩
theorem wh (ss tt:List ByteArray) (v u:Value) (w:World) (hv:au w v ss) (hu:au w u tt) (ha:Asc (ss.map bts)) (hl:ss.length+tt.length≤1000000):
  Calls Tryz.prog 99 #[v,u] w (Ki w w.heap.size (ss.length+tt.length) (InU ss tt)):=by
 have HC:=hid (eX ss v w hv qB);have HU:=hid hu;obtain⟨p,c,rfl,_⟩:=hv.shape;obtain⟨q,c2,rfl,KS,KP,_⟩:=hu.shape;unfold maxLen at KP;have HA:=hid ha;clear hv hu ha;go_enter Tryz.func99,Tryz.ntmps99;go_wp2_with fail;refine HC.out.mono ?_;rintro e w2 ⟨b,n,c3,rfl,H7,k2⟩;have x8:=hid H7;clear H7;go_wp2
 go_loopw [5,6] (fun o i' wr=>∃ (i:Nat) (b':Addr) (n' c':Nat) (r:List ByteArray),i≤tt.length∧i'=.int .i64 i∧o=.slice (some b') n' c'∧aA wr w.heap.size (.slice (some b') n' c') r∧Asc (r.map bts)∧(∀ z,z∈r.map bts↔z∈ss.map bts∨z∈(tt.take i).map bts)∧r.length≤ss.length+i∧aa w wr) (fun _ i' _=>tt.length-(intOf i').toNat)
 case atStart=>exact⟨0,b,n,c3,ss,qB,rfl,rfl,x8.out,HA.out,fun z=>by simp,qB,k2⟩
 case round=>
  obtain⟨i,b',n',c',r,hi,rfl,rfl,x6,eE,h9,H9,kw⟩:=hrel;clear x8;have HO:=hid x6;clear x6;have HS:=hid eE;clear eE;have HM:=hid h9;clear h9
  by_cases x9:i<tt.length
  ·have x7:(i:Int)<tt.length:=qB
   obtain⟨b1,o1,rfl,h1⟩:=(HU.out.keeps kw).get i x9;obtain⟨g,cg,eg⟩:=HO.out.blk qD
   obtain⟨e1,e2,e3⟩:b'=⟨g,0,none⟩∧n'=r.length∧c'=cg:=by injection eg with h1 h2 h3;exact⟨Option.some.inj h1,h2,h3⟩
   subst e1;have HI:=hid (fu r g 0 n' c' tt[i] w.heap.size wr HO.out qB kw.size)
   have hN:∀ z,z∈(ae r tt[i]).map bts↔z∈ss.map bts∨z∈(tt.take (i+1)).map bts:=fun z=>by
    rw[xV,HM.out z,zq x9,List.map_append,List.mem_append,or_assoc]
    simp
   have HN:=hid hN;clear hN;have H8:=hid (iK tt[i] HS.out);have KT:=(aX r tt[i]).1;clear eg e2 e3;generalize ae r tt[i]=r2 at*;generalize tt[i]=x at*;go_wp2_with fail;refine HI.out.mono ?_;rintro e w3 ⟨b4,n4,c4,rfl,KR,k4⟩;go_wp2_with fail;go_roundw
   case rel=>exact⟨i+1,b4,n4,c4,r2,qB,by go_num,rfl,KR,H8.out,HN.out,qB,kw.trans k4⟩
   case measure=>simp[intOf];omega
  ·obtain rfl:i=tt.length:=qB
   have x7:¬((tt.length:Int)<tt.length):=qB
   have hN:∀ z,z∈r.map bts↔z∈ss.map bts∨z∈tt.map bts:=fun z=>by
    have:=HM.out z;rwa[List.take_length] at this
   go_wp2;go_ret;exact⟨_,_,_,r,rfl,HO.out,HS.out,hN,qB,kw⟩
end
end Go.Proofs.YtagoboblkadelaaGreat
