import Derived.Test.YtagoboblkadelaaGreatZFM
/- own -/
namespace Go.Proofs.YtagoboblkadelaaGreat
set_option maxRecDepth 100000
set_option maxHeartbeats 8000000
open Go.RowKit
noncomputable def lpR (L r:Nat) (ss tt:List ByteArray) (main:ByteArray):Option (List Sq2):=
 if r=3 then (if iL (txF main) then some [(ae (ae (ah ss main) (pa1 main)) (pa2 main),tt)] else none)
 else if r=5 then (if iN (txF main) then some [(ae (ah ss main) (pa1 main),tt),(ae (ah ss main) (pa2 main),tt)] else none)
 else if r=7 then (if iM (txF main) then some [(ah ss main,ae tt (pa1 main)),(ae (ah ss main) (pa2 main),tt)] else none)
 else if r=9 then (if bg (txF main)&&rfL L then some [(ae ss (paI main),tt)] else none)
 else if r=11 then (if bR (txF main) then some [((mdQ L ss tt main).1,(mdQ L ss tt main).2)] else none)
 else none
noncomputable def rpR (L r:Nat) (ss tt:List ByteArray) (main:ByteArray):Option (List Sq2):=
 if r=4 then (if iL (txF main) then some [(ss,ae (ah tt main) (pa1 main)),(ss,ae (ah tt main) (pa2 main))] else none)
 else if r=6 then (if iN (txF main) then some [(ss,ae (ae (ah tt main) (pa1 main)) (pa2 main))] else none)
 else if r=8 then (if iM (txF main) then some [(ae ss (pa1 main),ae (ah tt main) (pa2 main))] else none)
 else if r=10 then (if bR (txF main)&&rfL L then some [(ss,ae tt (paI main))] else none)
 else if r=11 then (if bg (txF main) then some [((mdQ L ss tt main).1,(mdQ L ss tt main).2)] else none)
 else none
theorem oH {s:ByteArray} (h:s∈aT):ma s=true:=by
 unfold ma;refine @decide_eq_true _ (Classical.propDecidable _) ?_;rw[show iu=aT++[lgS 7] from rfl];exact List.mem_append_left _ h
theorem gF {t:Fm} (h:t.kind=2∨t.kind=3∨t.kind=4):bS t=[qd t,qF t]:=by
 cases t<;>simp[Fm.kind] at h<;>rfl
theorem lB {t:Fm} (h:t.kind=5∨t.kind=6):bS t=[bH t]:=by
 cases t<;>simp[Fm.kind] at h<;>rfl
section
variable {md:Region.Mode} {ops:Array Oper} {Q:Exit→Act→World→Prop} {nt:Nat} {ins:List Nat} {kd:Nat→Kq} {w0:World} {o:Oper}
theorem vG (s:Nat) (t:Fm) (main:ByteArray) (ho:o.op=.call { callee:=.value (.func 161),args:=#[.tmp s],argTypes:=#[50] }) (hg:o.guard=none) (h:az md ops ins o s=true) (hs:kd s=.nd t) (hm:ck main t) (hk:∀ d,o.dst=some d→kd d=.val (.string main)):StQ md ops Q nt ins kd w0 o:=
 JQ s t ho hg h hs hm.1 (by have:=hm.2.2;omega) (fun d hd=>by rw[hk d hd,←iB hm.2.1])
theorem B8:aG 155:=fun _ _=>by kernel_rfl
theorem DX (s1 s2 s3:Nat) (lg main:ByteArray) (ss tt:List ByteArray) (ho:o.op=.call { callee:=.value (.func 155),args:=#[.tmp s1,.tmp s2,.tmp s3],argTypes:=#[9,29,9] }) (hg:o.guard=none) (h1:az md ops ins o s1=true) (h2:az md ops ins o s2=true) (h3:az md ops ins o s3=true)
  (e1:kd s1=.val (.string lg)) (e2:kd s2=.sq ss tt) (e3:kd s3=.val (.string main)) (hs:aW ss) (ht:aW tt) (hl:ss.length≤1000∧tt.length≤1000) (hm:main=⟨#[]⟩∨∃ t,ck main t∧(t.kind=5∨t.kind=6)) (hk:∀ d,o.dst=some d→kd d=.sq (mdQ (lgN lg) ss tt main).1 (mdQ (lgN lg) ss tt main).2):StQ md ops Q nt ins kd w0 o:=
 dV 155 _ _ ho B8 hg (fun a w1 _ hv=>by
  have g1:=hv s1 h1;have g2:=hv s2 h2;have g3:=hv s3 h3;rw[e1] at g1;rw[e2] at g2;rw[e3] at g3;have g1:a.eval (.tmp s1)=.string lg:=g1;have g3:a.eval (.tmp s3)=.string main:=g3;obtain⟨x,y,g2,hx,hy⟩:=g2;rw[show(#[.tmp s1,.tmp s2,.tmp s3]:Array Operand).map a.eval=#[a.eval (.tmp s1),a.eval (.tmp s2),a.eval (.tmp s3)] by simp,g1,g2,g3];refine(iS lg main ss tt hs ht x y w1 hx hy hl hm).mono ?_;rintro e w2 ⟨u,v,rfl,h3,h4,k3⟩
  exact⟨_,rfl,k3,fun d hd=>by rw[hk d hd];exact⟨u,v,rfl,h3,h4⟩⟩)
end
theorem oB (lg:ByteArray) (r:Int) (main:ByteArray) (t:Fm) (KS:lg∈aT) (H9:ck main t) (ss tt:List ByteArray) (hs:aW ss) (ht:aW tt) (a b v:Value) (w:World) (ha:aj w a ss) (hb:aj w b tt) (hv:Nds w v t.enc) (hl:ss.length≤1000∧tt.length≤1000):
  Calls Tryz.prog 157 #[.string lg,.int .i64 r,.agg #[a,b],v] w (aH w (lpR (lgN lg) r.toNat ss tt main)):=by
 obtain⟨p,n,c,rfl⟩:=ha.sh;obtain⟨q,m,d,rfl⟩:=hb.sh;have k1:=(aa.refl w).alloc (.cells #[.slice p n c,.slice q m d] 29);have b1:=aR.made w 29 [.slice p n c,.slice q m d] qD qD;have x7:=hid b1;have HA:=hid (ha.keeps k1);have HC:=hid (hb.keeps k1);have HS:=hid hs;have HT:=hid ht;have x8:=hid H9;have H8:=hid (hv.keeps k1);have KT:=hid KS;have h9:Hid (txF main=t):=hid (gi H9);obtain⟨bv,ov,nv,cv,rfl,v0,v1,v2,v3,-,-⟩:=hv.root;obtain⟨l1,l2⟩:=hl;clear ha hb b1 hs ht H9 hv KS;have l3:=dj ss main;have l4:=dj tt main;go_enter Tryz.func157,Tryz.ntmps157
 go_upto_region 1 with fail
 generalize w.alloc (.cells #[.slice p n c,.slice q m d] 29)=w1 at*
 go_cut [10,11] from 12 to 18 (fun v10 v11 wx=>aj wx v10 (ah ss main)∧aj wx v11 ((bS t).map txS)∧aa w1 wx)
 case first=>
  have kd:=(aa.refl w1).drew;have c0:=(x7.out.keeps kd).cell 0 qD;have c1:=(x7.out.keeps kd).cell 1 qD;simp only[zj,zl] at c0 c1;have h0:=HA.out.keeps kd;have h1:=HC.out.keeps kd;have i3:=H8.out.keeps kd;refine ao (L:=9) (nt:=135) (ins:=[3,6]) (ds:=[12,13,14,15,16,17,18,10,11]) qA qA (fun s v w'=>((fun s=>if s=3 then .nd t else if s=6 then .val (.pointer (some ⟨w.heap.size,0,none⟩)) else if s=10 then .strs (ah ss main) else if s=11 then .strs ((bS t).map txS) else if s=12 then .val (.pointer (some ⟨w.heap.size,0,none⟩)) else if s=13 then .strs (ss) else if s=14 then .nd t else if s=15 then .val (.string main) else if s=16 then .strs (ah ss main) else if s=17 then .nd t else if s=18 then .strs ((bS t).map txS) else .any:Nat→Kq) s).holds v w') (fun _ _ _ _ h hv=>Kq.keeps h hv) ?_ qA rfl ?_ ?_
  ·refine lK (aD 6 (.pointer (some ⟨w.heap.size,0,none⟩)) (.pointer (some ⟨w.heap.size,0,none⟩)) rfl qA rfl (fun a w1 h1=>by unfold execOp;simp only[h1,Sem.run_bind,aM w.heap.size];rfl) (dd rfl)) ?_
   refine lK (aJ 12 _ _ _ rfl rfl qA rfl c0 h0 (dd rfl)) ?_;refine lK (ai 3 (.inl rfl) rfl qA (dd rfl)) ?_;refine lK (vG 14 t main rfl rfl qA rfl x8.out (dd rfl)) ?_;refine lK (DT 13 15 (ss) (main) rfl rfl qA qA rfl rfl qB (dd rfl)) ?_;refine lK (ai 3 (.inl rfl) rfl qA (dd rfl)) ?_;refine lK (DY 17 t rfl rfl qA rfl x8.out.1 (by have:=x8.out.2.2;omega) (dd rfl)) ?_;refine lK (ai 16 (.inr rfl) rfl qA (dd rfl)) ?_;refine lK (ai 18 (.inr rfl) rfl qA (dd rfl)) True.intro
  ·intro s hs
   have:s=3∨s=6:=by simpa using hs
   rcases this with rfl | rfl
   ·exact i3
   ·exact rfl
  ·intro f w' hk hv
   have g10:aj w' (f 10) (ah ss main):=hv 10 qC;have g11:aj w' (f 11) ((bS t).map txS):=hv 11 qC;have G10:=hid g10;have G11:=hid g11;clear g10 g11 hv;simp only[aN,Act.put,za,zb,zc];go_wp2_with fail
   go_meet
   exact⟨G10.out,G11.out,kd.trans hk⟩
 case rest=>
  obtain⟨g10,g11,kc⟩:=hcut;have x9:=hid g10;have H7:=hid g11;clear g10 g11;obtain⟨b9,o9,n9,c9,e9,-,-,-,-,z0,-⟩:=(H8.out.keeps kc).root
  cases e9
  have KP:=hid (iQ (oH KT.out))
  by_cases e3:r=3
  ·subst e3
   have HP:Hid (lpR (lgN lg) (3:Int).toNat ss tt main=if (iL (txF main))=true then some [(ae (ae (ah ss main) (pa1 main)) (pa2 main),tt)] else none):=hid rfl;rw[h9.out,←vI] at HP
   by_cases hk:t.kind=2
   ·rw[decide_eq_true hk] at HP
    rw[hk] at z0;have x6:Hid ((bS t).map txS=[pa1 main,pa2 main]):=hid (by rw[gF qB,pa1,pa2,h9.out];rfl);clear hk
    go_upto_region 3 with fail
    have kd:=kc.trans (aa.refl wc).drew;have eE:=x7.out.keeps kd;have c0:=eE.cell 0 qD;have c1:=eE.cell 1 qD;simp only[zj,zl] at c0 c1;have h0:=HA.out.keeps kd;have h1:=HC.out.keeps kd;have i10:=x9.out.keeps (aa.refl wc).drew;have i11:=H7.out.keeps (aa.refl wc).drew;rw[x6.out] at i11;refine ao (L:=9) (nt:=135) (ins:=[6,10,11]) (ds:=[29,30,31,32,33,34,35,8,9]) qA qA (fun s v w'=>((fun s=>if s=6 then .val (.pointer (some ⟨w.heap.size,0,none⟩)) else if s=8 then .sqs [(ae (ae (ah ss main) (pa1 main)) (pa2 main),tt)] else if s=9 then .val (.bool true) else if s=10 then .strs (ah ss main) else if s=11 then .strs [pa1 main,pa2 main] else if s=29 then .strs (ah ss main) else if s=30 then .strs [pa1 main,pa2 main] else if s=31 then .strs (ae (ae (ah ss main) (pa1 main)) (pa2 main)) else if s=32 then .val (.pointer (some ⟨w.heap.size,1,none⟩)) else if s=33 then .strs (tt) else if s=34 then .sq (ae (ae (ah ss main) (pa1 main)) (pa2 main)) (tt) else if s=35 then .sqs [(ae (ae (ah ss main) (pa1 main)) (pa2 main),tt)] else .any:Nat→Kq) s).holds v w') (fun _ _ _ _ h hv=>Kq.keeps h hv) ?_ qA rfl ?_ ?_
    ·refine lK (ai 10 (.inl rfl) rfl qA (dd rfl)) ?_
     refine lK (ai 11 (.inl rfl) rfl qA (dd rfl)) ?_;refine lK (Hy 29 30 (ah ss main) (pa1 main) (pa2 main) rfl rfl qA qA rfl rfl qB (bK HS.out).2 (dd rfl)) ?_;refine lK (aD 6 (.pointer (some ⟨w.heap.size,0,none⟩)) (.pointer (some ⟨w.heap.size,1,none⟩)) rfl qA rfl (fun a w1 h1=>by unfold execOp;simp only[h1,Sem.run_bind,aL w.heap.size];rfl) (dd rfl)) ?_;refine lK (aJ 32 _ _ _ rfl rfl qA rfl c1 h1 (dd rfl)) ?_;refine lK (eP 31 33 (ae (ae (ah ss main) (pa1 main)) (pa2 main)) (tt) rfl rfl qA qA rfl rfl (dd rfl)) ?_;refine lK (sc 34 (ae (ae (ah ss main) (pa1 main)) (pa2 main)) (tt) rfl rfl qA rfl (dd rfl)) ?_;refine lK (ai 35 (.inr rfl) rfl qA (dd rfl)) ?_;refine lK (ik (.bool true) (.inr rfl) rfl (dd rfl)) True.intro
    ·intro s hs
     have:s=6∨s=10∨s=11:=by simpa using hs
     rcases this with rfl | rfl | rfl
     ·exact rfl
     ·exact i10
     ·exact i11
    ·intro f w' hk hv
     have g8:SqL w' (f 8) [(ae (ae (ah ss main) (pa1 main)) (pa2 main),tt)]:=hv 8 qC;have g9:f 9=.bool true:=hv 9 qC;obtain⟨p6,c6,e6,_⟩:=g8.shape;rw[e6] at g8;have G8:=hid g8;clear g8 hv;simp only[aN,Act.put,za,zb,zc,e6,g9];go_wp2_with fail;refine bodyPost_ret (v:=.tuple #[.slice p6 1 c6,.bool true]) (by simp[results,Tryz.results157,go_sem]) rfl ?_;exact aH.mk HP.out (fun e=>rfl) G8.out ((k1.trans kd).trans hk)
   ·rw[decide_eq_false hk] at HP
    have hk':(t.kind==2)=false:=by simpa using hk
    generalize t.kind=kk at*;clear hk;go_wp2_with fail;refine bodyPost_ret (v:=.tuple #[.slice none 0 0,.bool false]) (by simp[results,Tryz.results157,go_sem]) rfl ?_;exact aH.mk (ps:=[]) (b:=false) (ps':=[]) (by rw[HP.out];rfl) (fun e=>by cases e) (SqL.none0 _ _) (k1.trans kc)
  by_cases e5:r=5
  ·subst e5
   have HP:Hid (lpR (lgN lg) (5:Int).toNat ss tt main=if (iN (txF main))=true then some [(ae (ah ss main) (pa1 main),tt),(ae (ah ss main) (pa2 main),tt)] else none):=hid rfl;rw[h9.out,←vM] at HP
   by_cases hk:t.kind=3
   ·rw[decide_eq_true hk] at HP
    rw[hk] at z0;have x6:Hid ((bS t).map txS=[pa1 main,pa2 main]):=hid (by rw[gF qB,pa1,pa2,h9.out];rfl);clear hk
    go_upto_region 5 with fail
    have kd:=kc.trans (aa.refl wc).drew;have eE:=x7.out.keeps kd;have c0:=eE.cell 0 qD;have c1:=eE.cell 1 qD;simp only[zj,zl] at c0 c1;have h0:=HA.out.keeps kd;have h1:=HC.out.keeps kd;have i10:=x9.out.keeps (aa.refl wc).drew;have i11:=H7.out.keeps (aa.refl wc).drew;rw[x6.out] at i11;refine ao (L:=21) (nt:=135) (ins:=[6,10,11]) (ds:=[46,47,48,49,50,51,52,53,54,55,56,57,58,59,60,61,62,63,64,8,9]) qA qA (fun s v w'=>((fun s=>if s=6 then .val (.pointer (some ⟨w.heap.size,0,none⟩)) else if s=8 then .sqs [(ae (ah ss main) (pa1 main),tt),(ae (ah ss main) (pa2 main),tt)] else if s=9 then .val (.bool true) else if s=10 then .strs (ah ss main) else if s=11 then .strs [pa1 main,pa2 main] else if s=46 then .strs (ah ss main) else if s=47 then .strs [pa1 main,pa2 main] else if s=48 then qH (pa1 main) else if s=49 then .val (.string (pa1 main)) else if s=50 then .strs [pa1 main] else if s=51 then .strs (ae (ah ss main) (pa1 main)) else if s=52 then .val (.pointer (some ⟨w.heap.size,1,none⟩)) else if s=53 then .strs (tt) else if s=54 then .sq (ae (ah ss main) (pa1 main)) (tt) else if s=55 then .strs (ah ss main) else if s=56 then .strs [pa1 main,pa2 main] else if s=57 then qH (pa2 main) else if s=58 then .val (.string (pa2 main)) else if s=59 then .strs [pa2 main] else if s=60 then .strs (ae (ah ss main) (pa2 main)) else if s=61 then .val (.pointer (some ⟨w.heap.size,1,none⟩)) else if s=62 then .strs (tt) else if s=63 then .sq (ae (ah ss main) (pa2 main)) (tt) else if s=64 then .sqs [(ae (ah ss main) (pa1 main),tt),(ae (ah ss main) (pa2 main),tt)] else .any:Nat→Kq) s).holds v w') (fun _ _ _ _ h hv=>Kq.keeps h hv) ?_ qA rfl ?_ ?_
    ·refine lK (ai 10 (.inl rfl) rfl qA (dd rfl)) ?_
     refine lK (ai 11 (.inl rfl) rfl qA (dd rfl)) ?_;refine lK (tS 47 0 [pa1 main,pa2 main] (pa1 main) rfl rfl qA rfl rfl (dd rfl)) ?_;refine lK (il 48 (pa1 main) rfl rfl qA rfl (dd rfl)) ?_;refine lK (qh 49 (pa1 main) rfl rfl qA rfl (dd rfl)) ?_;refine lK (jL 46 50 (ah ss main) (pa1 main) rfl rfl qA qA rfl rfl qB (bK HS.out).2 (dd rfl)) ?_;refine lK (aD 6 (.pointer (some ⟨w.heap.size,0,none⟩)) (.pointer (some ⟨w.heap.size,1,none⟩)) rfl qA rfl (fun a w1 h1=>by unfold execOp;simp only[h1,Sem.run_bind,aL w.heap.size];rfl) (dd rfl)) ?_;refine lK (aJ 52 _ _ _ rfl rfl qA rfl c1 h1 (dd rfl)) ?_;refine lK (eP 51 53 (ae (ah ss main) (pa1 main)) (tt) rfl rfl qA qA rfl rfl (dd rfl)) ?_;refine lK (ai 10 (.inl rfl) rfl qA (dd rfl)) ?_;refine lK (ai 11 (.inl rfl) rfl qA (dd rfl)) ?_;refine lK (tS 56 1 [pa1 main,pa2 main] (pa2 main) rfl rfl qA rfl rfl (dd rfl)) ?_;refine lK (il 57 (pa2 main) rfl rfl qA rfl (dd rfl)) ?_;refine lK (qh 58 (pa2 main) rfl rfl qA rfl (dd rfl)) ?_;refine lK (jL 55 59 (ah ss main) (pa2 main) rfl rfl qA qA rfl rfl qB (bK HS.out).2 (dd rfl)) ?_;refine lK (aD 6 (.pointer (some ⟨w.heap.size,0,none⟩)) (.pointer (some ⟨w.heap.size,1,none⟩)) rfl qA rfl (fun a w1 h1=>by unfold execOp;simp only[h1,Sem.run_bind,aL w.heap.size];rfl) (dd rfl)) ?_;refine lK (aJ 61 _ _ _ rfl rfl qA rfl c1 h1 (dd rfl)) ?_;refine lK (eP 60 62 (ae (ah ss main) (pa2 main)) (tt) rfl rfl qA qA rfl rfl (dd rfl)) ?_;refine lK (Bv 54 63 (ae (ah ss main) (pa1 main)) (tt) (ae (ah ss main) (pa2 main)) (tt) rfl rfl qA qA rfl rfl (dd rfl)) ?_;refine lK (ai 64 (.inr rfl) rfl qA (dd rfl)) ?_;refine lK (ik (.bool true) (.inr rfl) rfl (dd rfl)) True.intro
    ·intro s hs
     have:s=6∨s=10∨s=11:=by simpa using hs
     rcases this with rfl | rfl | rfl
     ·exact rfl
     ·exact i10
     ·exact i11
    ·intro f w' hk hv
     have g8:SqL w' (f 8) [(ae (ah ss main) (pa1 main),tt),(ae (ah ss main) (pa2 main),tt)]:=hv 8 qC;have g9:f 9=.bool true:=hv 9 qC;obtain⟨p6,c6,e6,_⟩:=g8.shape;rw[e6] at g8;have G8:=hid g8;clear g8 hv;simp only[aN,Act.put,za,zb,zc,e6,g9];go_wp2_with fail;refine bodyPost_ret (v:=.tuple #[.slice p6 2 c6,.bool true]) (by simp[results,Tryz.results157,go_sem]) rfl ?_;exact aH.mk HP.out (fun e=>rfl) G8.out ((k1.trans kd).trans hk)
   ·rw[decide_eq_false hk] at HP
    have hk':(t.kind==3)=false:=by simpa using hk
    generalize t.kind=kk at*;clear hk;go_wp2_with fail;refine bodyPost_ret (v:=.tuple #[.slice none 0 0,.bool false]) (by simp[results,Tryz.results157,go_sem]) rfl ?_;exact aH.mk (ps:=[]) (b:=false) (ps':=[]) (by rw[HP.out];rfl) (fun e=>by cases e) (SqL.none0 _ _) (k1.trans kc)
  by_cases e7:r=7
  ·subst e7
   have HP:Hid (lpR (lgN lg) (7:Int).toNat ss tt main=if (iM (txF main))=true then some [(ah ss main,ae tt (pa1 main)),(ae (ah ss main) (pa2 main),tt)] else none):=hid rfl;rw[h9.out,←vL] at HP
   by_cases hk:t.kind=4
   ·rw[decide_eq_true hk] at HP
    rw[hk] at z0;have x6:Hid ((bS t).map txS=[pa1 main,pa2 main]):=hid (by rw[gF qB,pa1,pa2,h9.out];rfl);clear hk
    go_upto_region 7 with fail
    have kd:=kc.trans (aa.refl wc).drew;have eE:=x7.out.keeps kd;have c0:=eE.cell 0 qD;have c1:=eE.cell 1 qD;simp only[zj,zl] at c0 c1;have h0:=HA.out.keeps kd;have h1:=HC.out.keeps kd;have i10:=x9.out.keeps (aa.refl wc).drew;have i11:=H7.out.keeps (aa.refl wc).drew;rw[x6.out] at i11;refine ao (L:=21) (nt:=135) (ins:=[6,10,11]) (ds:=[75,76,77,78,79,80,81,82,83,84,85,86,87,88,89,90,91,92,93,8,9]) qA qA (fun s v w'=>((fun s=>if s=6 then .val (.pointer (some ⟨w.heap.size,0,none⟩)) else if s=8 then .sqs [(ah ss main,ae tt (pa1 main)),(ae (ah ss main) (pa2 main),tt)] else if s=9 then .val (.bool true) else if s=10 then .strs (ah ss main) else if s=11 then .strs [pa1 main,pa2 main] else if s=75 then .strs (ah ss main) else if s=76 then .val (.pointer (some ⟨w.heap.size,1,none⟩)) else if s=77 then .strs (tt) else if s=78 then .strs [pa1 main,pa2 main] else if s=79 then qH (pa1 main) else if s=80 then .val (.string (pa1 main)) else if s=81 then .strs [pa1 main] else if s=82 then .strs (ae tt (pa1 main)) else if s=83 then .sq (ah ss main) (ae tt (pa1 main)) else if s=84 then .strs (ah ss main) else if s=85 then .strs [pa1 main,pa2 main] else if s=86 then qH (pa2 main) else if s=87 then .val (.string (pa2 main)) else if s=88 then .strs [pa2 main] else if s=89 then .strs (ae (ah ss main) (pa2 main)) else if s=90 then .val (.pointer (some ⟨w.heap.size,1,none⟩)) else if s=91 then .strs (tt) else if s=92 then .sq (ae (ah ss main) (pa2 main)) (tt) else if s=93 then .sqs [(ah ss main,ae tt (pa1 main)),(ae (ah ss main) (pa2 main),tt)] else .any:Nat→Kq) s).holds v w') (fun _ _ _ _ h hv=>Kq.keeps h hv) ?_ qA rfl ?_ ?_
    ·refine lK (ai 10 (.inl rfl) rfl qA (dd rfl)) ?_
     refine lK (aD 6 (.pointer (some ⟨w.heap.size,0,none⟩)) (.pointer (some ⟨w.heap.size,1,none⟩)) rfl qA rfl (fun a w1 h1=>by unfold execOp;simp only[h1,Sem.run_bind,aL w.heap.size];rfl) (dd rfl)) ?_;refine lK (aJ 76 _ _ _ rfl rfl qA rfl c1 h1 (dd rfl)) ?_;refine lK (ai 11 (.inl rfl) rfl qA (dd rfl)) ?_;refine lK (tS 78 0 [pa1 main,pa2 main] (pa1 main) rfl rfl qA rfl rfl (dd rfl)) ?_;refine lK (il 79 (pa1 main) rfl rfl qA rfl (dd rfl)) ?_;refine lK (qh 80 (pa1 main) rfl rfl qA rfl (dd rfl)) ?_;refine lK (jL 77 81 (tt) (pa1 main) rfl rfl qA qA rfl rfl qB HT.out.2 (dd rfl)) ?_;refine lK (eP 75 82 (ah ss main) (ae tt (pa1 main)) rfl rfl qA qA rfl rfl (dd rfl)) ?_;refine lK (ai 10 (.inl rfl) rfl qA (dd rfl)) ?_;refine lK (ai 11 (.inl rfl) rfl qA (dd rfl)) ?_;refine lK (tS 85 1 [pa1 main,pa2 main] (pa2 main) rfl rfl qA rfl rfl (dd rfl)) ?_;refine lK (il 86 (pa2 main) rfl rfl qA rfl (dd rfl)) ?_;refine lK (qh 87 (pa2 main) rfl rfl qA rfl (dd rfl)) ?_;refine lK (jL 84 88 (ah ss main) (pa2 main) rfl rfl qA qA rfl rfl qB (bK HS.out).2 (dd rfl)) ?_;refine lK (aD 6 (.pointer (some ⟨w.heap.size,0,none⟩)) (.pointer (some ⟨w.heap.size,1,none⟩)) rfl qA rfl (fun a w1 h1=>by unfold execOp;simp only[h1,Sem.run_bind,aL w.heap.size];rfl) (dd rfl)) ?_;refine lK (aJ 90 _ _ _ rfl rfl qA rfl c1 h1 (dd rfl)) ?_;refine lK (eP 89 91 (ae (ah ss main) (pa2 main)) (tt) rfl rfl qA qA rfl rfl (dd rfl)) ?_;refine lK (Bv 83 92 (ah ss main) (ae tt (pa1 main)) (ae (ah ss main) (pa2 main)) (tt) rfl rfl qA qA rfl rfl (dd rfl)) ?_;refine lK (ai 93 (.inr rfl) rfl qA (dd rfl)) ?_;refine lK (ik (.bool true) (.inr rfl) rfl (dd rfl)) True.intro
    ·intro s hs
     have:s=6∨s=10∨s=11:=by simpa using hs
     rcases this with rfl | rfl | rfl
     ·exact rfl
     ·exact i10
     ·exact i11
    ·intro f w' hk hv
     have g8:SqL w' (f 8) [(ah ss main,ae tt (pa1 main)),(ae (ah ss main) (pa2 main),tt)]:=hv 8 qC;have g9:f 9=.bool true:=hv 9 qC;obtain⟨p6,c6,e6,_⟩:=g8.shape;rw[e6] at g8;have G8:=hid g8;clear g8 hv;simp only[aN,Act.put,za,zb,zc,e6,g9];go_wp2_with fail;refine bodyPost_ret (v:=.tuple #[.slice p6 2 c6,.bool true]) (by simp[results,Tryz.results157,go_sem]) rfl ?_;exact aH.mk HP.out (fun e=>rfl) G8.out ((k1.trans kd).trans hk)
   ·rw[decide_eq_false hk] at HP
    have hk':(t.kind==4)=false:=by simpa using hk
    generalize t.kind=kk at*;clear hk;go_wp2_with fail;refine bodyPost_ret (v:=.tuple #[.slice none 0 0,.bool false]) (by simp[results,Tryz.results157,go_sem]) rfl ?_;exact aH.mk (ps:=[]) (b:=false) (ps':=[]) (by rw[HP.out];rfl) (fun e=>by cases e) (SqL.none0 _ _) (k1.trans kc)
  by_cases e9:r=9
  ·subst e9
   have HP:Hid (lpR (lgN lg) (9:Int).toNat ss tt main=if (bg (txF main)&&rfL (lgN lg))=true then some [(ae ss (paI main),tt)] else none):=hid rfl;rw[h9.out,←vJ] at HP
   by_cases hk:t.kind=5
   ·rw[decide_eq_true hk] at HP
    rw[hk] at z0;have x6:Hid ((bS t).map txS=[paI main]):=hid (by rw[lB qB,paI,h9.out];rfl);clear hk;have KR:=hid (fun wz=>fY (lgN lg) KP.out.1 wz);rw[←KP.out.2] at KR;rw[Bool.true_and,show rfL (lgN lg)=decide (lgN lg=2∨lgN lg=4∨lgN lg=6) from rfl] at HP;generalize decide (lgN lg=2∨lgN lg=4∨lgN lg=6)=rf at*
    skip
    go_wp2_with fail;refine(KR.out _).mono ?_;rintro e w' ⟨rfl,rfl⟩
    cases rf
    ·go_wp2_with fail
     refine bodyPost_ret (v:=.tuple #[.slice none 0 0,.bool false]) (by simp[results,Tryz.results157,go_sem]) rfl ?_;exact aH.mk (ps:=[]) HP.out (fun e=>by cases e) (SqL.none0 _ _) (k1.trans kc)
    ·go_upto_region 9 with fail
     have kd:=kc.trans (aa.refl wc).drew;have eE:=x7.out.keeps kd;have c0:=eE.cell 0 qD;have c1:=eE.cell 1 qD;simp only[zj,zl] at c0 c1;have h0:=HA.out.keeps kd;have h1:=HC.out.keeps kd;have i10:=x9.out.keeps (aa.refl wc).drew;have i11:=H7.out.keeps (aa.refl wc).drew;rw[x6.out] at i11;refine ao (L:=13) (nt:=135) (ins:=[6,11]) (ds:=[108,109,110,111,112,113,114,115,116,117,118,8,9]) qA qA (fun s v w'=>((fun s=>if s=6 then .val (.pointer (some ⟨w.heap.size,0,none⟩)) else if s=8 then .sqs [(ae ss (paI main),tt)] else if s=9 then .val (.bool true) else if s=11 then .strs [paI main] else if s=108 then .val (.pointer (some ⟨w.heap.size,0,none⟩)) else if s=109 then .strs (ss) else if s=110 then .strs [paI main] else if s=111 then qH (paI main) else if s=112 then .val (.string (paI main)) else if s=113 then .strs [paI main] else if s=114 then .strs (ae ss (paI main)) else if s=115 then .val (.pointer (some ⟨w.heap.size,1,none⟩)) else if s=116 then .strs (tt) else if s=117 then .sq (ae ss (paI main)) (tt) else if s=118 then .sqs [(ae ss (paI main),tt)] else .any:Nat→Kq) s).holds v w') (fun _ _ _ _ h hv=>Kq.keeps h hv) ?_ qA rfl ?_ ?_
     ·refine lK (aD 6 (.pointer (some ⟨w.heap.size,0,none⟩)) (.pointer (some ⟨w.heap.size,0,none⟩)) rfl qA rfl (fun a w1 h1=>by unfold execOp;simp only[h1,Sem.run_bind,aM w.heap.size];rfl) (dd rfl)) ?_
      refine lK (aJ 108 _ _ _ rfl rfl qA rfl c0 h0 (dd rfl)) ?_;refine lK (ai 11 (.inl rfl) rfl qA (dd rfl)) ?_;refine lK (tS 110 0 [paI main] (paI main) rfl rfl qA rfl rfl (dd rfl)) ?_;refine lK (il 111 (paI main) rfl rfl qA rfl (dd rfl)) ?_;refine lK (qh 112 (paI main) rfl rfl qA rfl (dd rfl)) ?_;refine lK (jL 109 113 (ss) (paI main) rfl rfl qA qA rfl rfl qB HS.out.2 (dd rfl)) ?_;refine lK (aD 6 (.pointer (some ⟨w.heap.size,0,none⟩)) (.pointer (some ⟨w.heap.size,1,none⟩)) rfl qA rfl (fun a w1 h1=>by unfold execOp;simp only[h1,Sem.run_bind,aL w.heap.size];rfl) (dd rfl)) ?_;refine lK (aJ 115 _ _ _ rfl rfl qA rfl c1 h1 (dd rfl)) ?_;refine lK (eP 114 116 (ae ss (paI main)) (tt) rfl rfl qA qA rfl rfl (dd rfl)) ?_;refine lK (sc 117 (ae ss (paI main)) (tt) rfl rfl qA rfl (dd rfl)) ?_;refine lK (ai 118 (.inr rfl) rfl qA (dd rfl)) ?_;refine lK (ik (.bool true) (.inr rfl) rfl (dd rfl)) True.intro
     ·intro s hs
      have:s=6∨s=11:=by simpa using hs
      rcases this with rfl | rfl
      ·exact rfl
      ·exact i11
     ·intro f w' hk hv
      have g8:SqL w' (f 8) [(ae ss (paI main),tt)]:=hv 8 qC;have g9:f 9=.bool true:=hv 9 qC;obtain⟨p6,c6,e6,_⟩:=g8.shape;rw[e6] at g8;have G8:=hid g8;clear g8 hv;simp only[aN,Act.put,za,zb,zc,e6,g9];go_wp2_with fail;refine bodyPost_ret (v:=.tuple #[.slice p6 1 c6,.bool true]) (by simp[results,Tryz.results157,go_sem]) rfl ?_;exact aH.mk HP.out (fun e=>rfl) G8.out ((k1.trans kd).trans hk)
   ·rw[decide_eq_false hk] at HP
    have hk':(t.kind==5)=false:=by simpa using hk
    generalize t.kind=kk at*;clear hk;go_wp2_with fail;refine bodyPost_ret (v:=.tuple #[.slice none 0 0,.bool false]) (by simp[results,Tryz.results157,go_sem]) rfl ?_;exact aH.mk (ps:=[]) (b:=false) (ps':=[]) (by rw[HP.out];rfl) (fun e=>by cases e) (SqL.none0 _ _) (k1.trans kc)
  by_cases e11:r=11
  ·subst e11
   have HP:Hid (lpR (lgN lg) (11:Int).toNat ss tt main=if (bR (txF main))=true then some [((mdQ (lgN lg) ss tt main).1,(mdQ (lgN lg) ss tt main).2)] else none):=hid rfl;rw[h9.out,←vK] at HP
   by_cases hk:t.kind=6
   ·rw[decide_eq_true hk] at HP
    rw[hk] at z0;have x6:Hid ((bS t).map txS=[paI main]):=hid (by rw[lB qB,paI,h9.out];rfl);have KU:Hid (t.kind=5∨t.kind=6):=hid qB;clear hk
    go_upto_region 11 with fail
    have kd:=kc.trans (aa.refl wc).drew;have eE:=x7.out.keeps kd;have h0:=HA.out.keeps kd;have h1:=HC.out.keeps kd;have i3:=H8.out.keeps kd;refine ao (L:=8) (nt:=135) (ins:=[0,3,6]) (ds:=[129,130,131,132,133,134,8,9]) qA qA (fun s v w'=>((fun s=>if s=0 then .val (.string lg) else if s=3 then .nd t else if s=6 then .val (.pointer (some ⟨w.heap.size,0,none⟩)) else if s=8 then .sqs [((mdQ (lgN lg) ss tt main).1,(mdQ (lgN lg) ss tt main).2)] else if s=9 then .val (.bool true) else if s=129 then .val (.string lg) else if s=130 then .sq (ss) (tt) else if s=131 then .nd t else if s=132 then .val (.string main) else if s=133 then .sq ((mdQ (lgN lg) ss tt main).1) ((mdQ (lgN lg) ss tt main).2) else if s=134 then .sqs [((mdQ (lgN lg) ss tt main).1,(mdQ (lgN lg) ss tt main).2)] else .any:Nat→Kq) s).holds v w') (fun _ _ _ _ h hv=>Kq.keeps h hv) ?_ qA rfl ?_ ?_
    ·refine lK (ai 0 (.inl rfl) rfl qA (dd rfl)) ?_
     refine lK (rZ 6 (w.heap.size) _ _ (ss) (tt) rfl rfl qA rfl eE h0 h1 (dd rfl)) ?_;refine lK (ai 3 (.inl rfl) rfl qA (dd rfl)) ?_;refine lK (vG 131 t main rfl rfl qA rfl x8.out (dd rfl)) ?_;refine lK (DX 129 130 132 lg main ss tt rfl rfl qA qA qA rfl rfl rfl HS.out HT.out ⟨qB,qB⟩ (.inr ⟨t,x8.out,KU.out⟩) (dd rfl)) ?_;refine lK (sc 133 ((mdQ (lgN lg) ss tt main).1) ((mdQ (lgN lg) ss tt main).2) rfl rfl qA rfl (dd rfl)) ?_;refine lK (ai 134 (.inr rfl) rfl qA (dd rfl)) ?_;refine lK (ik (.bool true) (.inr rfl) rfl (dd rfl)) True.intro
    ·intro s hs
     have:s=0∨s=3∨s=6:=by simpa using hs
     rcases this with rfl | rfl | rfl
     ·exact rfl
     ·exact i3
     ·exact rfl
    ·intro f w' hk hv
     have g8:SqL w' (f 8) [((mdQ (lgN lg) ss tt main).1,(mdQ (lgN lg) ss tt main).2)]:=hv 8 qC;have g9:f 9=.bool true:=hv 9 qC;obtain⟨p6,c6,e6,_⟩:=g8.shape;rw[e6] at g8;have G8:=hid g8;clear g8 hv;simp only[aN,Act.put,za,zb,zc,e6,g9];go_wp2_with fail;refine bodyPost_ret (v:=.tuple #[.slice p6 1 c6,.bool true]) (by simp[results,Tryz.results157,go_sem]) rfl ?_;exact aH.mk HP.out (fun e=>rfl) G8.out ((k1.trans kd).trans hk)
   ·rw[decide_eq_false hk] at HP
    have hk':(t.kind==6)=false:=by simpa using hk
    generalize t.kind=kk at*;clear hk;go_wp2_with fail;refine bodyPost_ret (v:=.tuple #[.slice none 0 0,.bool false]) (by simp[results,Tryz.results157,go_sem]) rfl ?_;exact aH.mk (ps:=[]) (b:=false) (ps':=[]) (by rw[HP.out];rfl) (fun e=>by cases e) (SqL.none0 _ _) (k1.trans kc)
  have HP:Hid (lpR (lgN lg) r.toNat ss tt main=none):=hid (by
   unfold lpR
   rw[if_neg qB,if_neg qB,if_neg qB,if_neg qB,if_neg qB])
  have q3:(r==3)=false:=by simpa using e3
  have q5:(r==5)=false:=by simpa using e5
  have q7:(r==7)=false:=by simpa using e7
  have q9:(r==9)=false:=by simpa using e9
  have q11:(r==11)=false:=by simpa using e11
  clear e3 e5 e7 e9 e11;go_wp2_with fail;refine bodyPost_ret (v:=.tuple #[.slice none 0 0,.bool false]) (by simp[results,Tryz.results157,go_sem]) rfl ?_;exact aH.mk (ps:=[]) (b:=false) (ps':=[]) (by rw[HP.out];rfl) (fun e=>by cases e) (SqL.none0 _ _) (k1.trans kc)
theorem nB (lg:ByteArray) (r:Int) (main:ByteArray) (t:Fm) (KS:lg∈aT) (H9:ck main t) (ss tt:List ByteArray) (hs:aW ss) (ht:aW tt) (a b v:Value) (w:World) (ha:aj w a ss) (hb:aj w b tt) (hv:Nds w v t.enc) (hl:ss.length≤1000∧tt.length≤1000):
  Calls Tryz.prog 158 #[.string lg,.int .i64 r,.agg #[a,b],v] w (aH w (rpR (lgN lg) r.toNat ss tt main)):=by
 obtain⟨p,n,c,rfl⟩:=ha.sh;obtain⟨q,m,d,rfl⟩:=hb.sh;have k1:=(aa.refl w).alloc (.cells #[.slice p n c,.slice q m d] 29);have b1:=aR.made w 29 [.slice p n c,.slice q m d] qD qD;have x7:=hid b1;have HA:=hid (ha.keeps k1);have HC:=hid (hb.keeps k1);have HS:=hid hs;have HT:=hid ht;have x8:=hid H9;have H8:=hid (hv.keeps k1);have KT:=hid KS;have h9:Hid (txF main=t):=hid (gi H9);obtain⟨bv,ov,nv,cv,rfl,v0,v1,v2,v3,-,-⟩:=hv.root;obtain⟨l1,l2⟩:=hl;clear ha hb b1 hs ht H9 hv KS;have l3:=dj ss main;have l4:=dj tt main;go_enter Tryz.func158,Tryz.ntmps158
 go_upto_region 1 with fail
 generalize w.alloc (.cells #[.slice p n c,.slice q m d] 29)=w1 at*
 go_cut [10,11] from 12 to 18 (fun v10 v11 wx=>aj wx v10 (ah tt main)∧aj wx v11 ((bS t).map txS)∧aa w1 wx)
 case first=>
  have kd:=(aa.refl w1).drew;have c0:=(x7.out.keeps kd).cell 0 qD;have c1:=(x7.out.keeps kd).cell 1 qD;simp only[zj,zl] at c0 c1;have h0:=HA.out.keeps kd;have h1:=HC.out.keeps kd;have i3:=H8.out.keeps kd;refine ao (L:=9) (nt:=131) (ins:=[3,6]) (ds:=[12,13,14,15,16,17,18,10,11]) qA qA (fun s v w'=>((fun s=>if s=3 then .nd t else if s=6 then .val (.pointer (some ⟨w.heap.size,0,none⟩)) else if s=10 then .strs (ah tt main) else if s=11 then .strs ((bS t).map txS) else if s=12 then .val (.pointer (some ⟨w.heap.size,1,none⟩)) else if s=13 then .strs (tt) else if s=14 then .nd t else if s=15 then .val (.string main) else if s=16 then .strs (ah tt main) else if s=17 then .nd t else if s=18 then .strs ((bS t).map txS) else .any:Nat→Kq) s).holds v w') (fun _ _ _ _ h hv=>Kq.keeps h hv) ?_ qA rfl ?_ ?_
  ·refine lK (aD 6 (.pointer (some ⟨w.heap.size,0,none⟩)) (.pointer (some ⟨w.heap.size,1,none⟩)) rfl qA rfl (fun a w1 h1=>by unfold execOp;simp only[h1,Sem.run_bind,aL w.heap.size];rfl) (dd rfl)) ?_
   refine lK (aJ 12 _ _ _ rfl rfl qA rfl c1 h1 (dd rfl)) ?_;refine lK (ai 3 (.inl rfl) rfl qA (dd rfl)) ?_;refine lK (vG 14 t main rfl rfl qA rfl x8.out (dd rfl)) ?_;refine lK (DT 13 15 (tt) (main) rfl rfl qA qA rfl rfl qB (dd rfl)) ?_;refine lK (ai 3 (.inl rfl) rfl qA (dd rfl)) ?_;refine lK (DY 17 t rfl rfl qA rfl x8.out.1 (by have:=x8.out.2.2;omega) (dd rfl)) ?_;refine lK (ai 16 (.inr rfl) rfl qA (dd rfl)) ?_;refine lK (ai 18 (.inr rfl) rfl qA (dd rfl)) True.intro
  ·intro s hs
   have:s=3∨s=6:=by simpa using hs
   rcases this with rfl | rfl
   ·exact i3
   ·exact rfl
  ·intro f w' hk hv
   have g10:aj w' (f 10) (ah tt main):=hv 10 qC;have g11:aj w' (f 11) ((bS t).map txS):=hv 11 qC;have G10:=hid g10;have G11:=hid g11;clear g10 g11 hv;simp only[aN,Act.put,za,zb,zc];go_wp2_with fail
   go_meet
   exact⟨G10.out,G11.out,kd.trans hk⟩
 case rest=>
  obtain⟨g10,g11,kc⟩:=hcut;have x9:=hid g10;have H7:=hid g11;clear g10 g11;obtain⟨b9,o9,n9,c9,e9,-,-,-,-,z0,-⟩:=(H8.out.keeps kc).root
  cases e9
  have KP:=hid (iQ (oH KT.out))
  by_cases e4:r=4
  ·subst e4
   have HP:Hid (rpR (lgN lg) (4:Int).toNat ss tt main=if (iL (txF main))=true then some [(ss,ae (ah tt main) (pa1 main)),(ss,ae (ah tt main) (pa2 main))] else none):=hid rfl;rw[h9.out,←vI] at HP
   by_cases hk:t.kind=2
   ·rw[decide_eq_true hk] at HP
    rw[hk] at z0;have x6:Hid ((bS t).map txS=[pa1 main,pa2 main]):=hid (by rw[gF qB,pa1,pa2,h9.out];rfl);clear hk
    go_upto_region 3 with fail
    have kd:=kc.trans (aa.refl wc).drew;have eE:=x7.out.keeps kd;have c0:=eE.cell 0 qD;have c1:=eE.cell 1 qD;simp only[zj,zl] at c0 c1;have h0:=HA.out.keeps kd;have h1:=HC.out.keeps kd;have i10:=x9.out.keeps (aa.refl wc).drew;have i11:=H7.out.keeps (aa.refl wc).drew;rw[x6.out] at i11;refine ao (L:=21) (nt:=131) (ins:=[6,10,11]) (ds:=[29,30,31,32,33,34,35,36,37,38,39,40,41,42,43,44,45,46,47,8,9]) qA qA (fun s v w'=>((fun s=>if s=6 then .val (.pointer (some ⟨w.heap.size,0,none⟩)) else if s=8 then .sqs [(ss,ae (ah tt main) (pa1 main)),(ss,ae (ah tt main) (pa2 main))] else if s=9 then .val (.bool true) else if s=10 then .strs (ah tt main) else if s=11 then .strs [pa1 main,pa2 main] else if s=29 then .val (.pointer (some ⟨w.heap.size,0,none⟩)) else if s=30 then .strs (ss) else if s=31 then .strs (ah tt main) else if s=32 then .strs [pa1 main,pa2 main] else if s=33 then qH (pa1 main) else if s=34 then .val (.string (pa1 main)) else if s=35 then .strs [pa1 main] else if s=36 then .strs (ae (ah tt main) (pa1 main)) else if s=37 then .sq (ss) (ae (ah tt main) (pa1 main)) else if s=38 then .val (.pointer (some ⟨w.heap.size,0,none⟩)) else if s=39 then .strs (ss) else if s=40 then .strs (ah tt main) else if s=41 then .strs [pa1 main,pa2 main] else if s=42 then qH (pa2 main) else if s=43 then .val (.string (pa2 main)) else if s=44 then .strs [pa2 main] else if s=45 then .strs (ae (ah tt main) (pa2 main)) else if s=46 then .sq (ss) (ae (ah tt main) (pa2 main)) else if s=47 then .sqs [(ss,ae (ah tt main) (pa1 main)),(ss,ae (ah tt main) (pa2 main))] else .any:Nat→Kq) s).holds v w') (fun _ _ _ _ h hv=>Kq.keeps h hv) ?_ qA rfl ?_ ?_
    ·refine lK (aD 6 (.pointer (some ⟨w.heap.size,0,none⟩)) (.pointer (some ⟨w.heap.size,0,none⟩)) rfl qA rfl (fun a w1 h1=>by unfold execOp;simp only[h1,Sem.run_bind,aM w.heap.size];rfl) (dd rfl)) ?_
     refine lK (aJ 29 _ _ _ rfl rfl qA rfl c0 h0 (dd rfl)) ?_;refine lK (ai 10 (.inl rfl) rfl qA (dd rfl)) ?_;refine lK (ai 11 (.inl rfl) rfl qA (dd rfl)) ?_;refine lK (tS 32 0 [pa1 main,pa2 main] (pa1 main) rfl rfl qA rfl rfl (dd rfl)) ?_;refine lK (il 33 (pa1 main) rfl rfl qA rfl (dd rfl)) ?_;refine lK (qh 34 (pa1 main) rfl rfl qA rfl (dd rfl)) ?_;refine lK (jL 31 35 (ah tt main) (pa1 main) rfl rfl qA qA rfl rfl qB (bK HT.out).2 (dd rfl)) ?_;refine lK (eP 30 36 (ss) (ae (ah tt main) (pa1 main)) rfl rfl qA qA rfl rfl (dd rfl)) ?_;refine lK (aD 6 (.pointer (some ⟨w.heap.size,0,none⟩)) (.pointer (some ⟨w.heap.size,0,none⟩)) rfl qA rfl (fun a w1 h1=>by unfold execOp;simp only[h1,Sem.run_bind,aM w.heap.size];rfl) (dd rfl)) ?_;refine lK (aJ 38 _ _ _ rfl rfl qA rfl c0 h0 (dd rfl)) ?_;refine lK (ai 10 (.inl rfl) rfl qA (dd rfl)) ?_;refine lK (ai 11 (.inl rfl) rfl qA (dd rfl)) ?_;refine lK (tS 41 1 [pa1 main,pa2 main] (pa2 main) rfl rfl qA rfl rfl (dd rfl)) ?_;refine lK (il 42 (pa2 main) rfl rfl qA rfl (dd rfl)) ?_;refine lK (qh 43 (pa2 main) rfl rfl qA rfl (dd rfl)) ?_;refine lK (jL 40 44 (ah tt main) (pa2 main) rfl rfl qA qA rfl rfl qB (bK HT.out).2 (dd rfl)) ?_;refine lK (eP 39 45 (ss) (ae (ah tt main) (pa2 main)) rfl rfl qA qA rfl rfl (dd rfl)) ?_;refine lK (Bv 37 46 (ss) (ae (ah tt main) (pa1 main)) (ss) (ae (ah tt main) (pa2 main)) rfl rfl qA qA rfl rfl (dd rfl)) ?_;refine lK (ai 47 (.inr rfl) rfl qA (dd rfl)) ?_;refine lK (ik (.bool true) (.inr rfl) rfl (dd rfl)) True.intro
    ·intro s hs
     have:s=6∨s=10∨s=11:=by simpa using hs
     rcases this with rfl | rfl | rfl
     ·exact rfl
     ·exact i10
     ·exact i11
    ·intro f w' hk hv
     have g8:SqL w' (f 8) [(ss,ae (ah tt main) (pa1 main)),(ss,ae (ah tt main) (pa2 main))]:=hv 8 qC;have g9:f 9=.bool true:=hv 9 qC;obtain⟨p6,c6,e6,_⟩:=g8.shape;rw[e6] at g8;have G8:=hid g8;clear g8 hv;simp only[aN,Act.put,za,zb,zc,e6,g9];go_wp2_with fail;refine bodyPost_ret (v:=.tuple #[.slice p6 2 c6,.bool true]) (by simp[results,Tryz.results158,go_sem]) rfl ?_;exact aH.mk HP.out (fun e=>rfl) G8.out ((k1.trans kd).trans hk)
   ·rw[decide_eq_false hk] at HP
    have hk':(t.kind==2)=false:=by simpa using hk
    generalize t.kind=kk at*;clear hk;go_wp2_with fail;refine bodyPost_ret (v:=.tuple #[.slice none 0 0,.bool false]) (by simp[results,Tryz.results158,go_sem]) rfl ?_;exact aH.mk (ps:=[]) (b:=false) (ps':=[]) (by rw[HP.out];rfl) (fun e=>by cases e) (SqL.none0 _ _) (k1.trans kc)
  by_cases e6:r=6
  ·subst e6
   have HP:Hid (rpR (lgN lg) (6:Int).toNat ss tt main=if (iN (txF main))=true then some [(ss,ae (ae (ah tt main) (pa1 main)) (pa2 main))] else none):=hid rfl;rw[h9.out,←vM] at HP
   by_cases hk:t.kind=3
   ·rw[decide_eq_true hk] at HP
    rw[hk] at z0;have x6:Hid ((bS t).map txS=[pa1 main,pa2 main]):=hid (by rw[gF qB,pa1,pa2,h9.out];rfl);clear hk
    go_upto_region 5 with fail
    have kd:=kc.trans (aa.refl wc).drew;have eE:=x7.out.keeps kd;have c0:=eE.cell 0 qD;have c1:=eE.cell 1 qD;simp only[zj,zl] at c0 c1;have h0:=HA.out.keeps kd;have h1:=HC.out.keeps kd;have i10:=x9.out.keeps (aa.refl wc).drew;have i11:=H7.out.keeps (aa.refl wc).drew;rw[x6.out] at i11;refine ao (L:=9) (nt:=131) (ins:=[6,10,11]) (ds:=[58,59,60,61,62,63,64,8,9]) qA qA (fun s v w'=>((fun s=>if s=6 then .val (.pointer (some ⟨w.heap.size,0,none⟩)) else if s=8 then .sqs [(ss,ae (ae (ah tt main) (pa1 main)) (pa2 main))] else if s=9 then .val (.bool true) else if s=10 then .strs (ah tt main) else if s=11 then .strs [pa1 main,pa2 main] else if s=58 then .val (.pointer (some ⟨w.heap.size,0,none⟩)) else if s=59 then .strs (ss) else if s=60 then .strs (ah tt main) else if s=61 then .strs [pa1 main,pa2 main] else if s=62 then .strs (ae (ae (ah tt main) (pa1 main)) (pa2 main)) else if s=63 then .sq (ss) (ae (ae (ah tt main) (pa1 main)) (pa2 main)) else if s=64 then .sqs [(ss,ae (ae (ah tt main) (pa1 main)) (pa2 main))] else .any:Nat→Kq) s).holds v w') (fun _ _ _ _ h hv=>Kq.keeps h hv) ?_ qA rfl ?_ ?_
    ·refine lK (aD 6 (.pointer (some ⟨w.heap.size,0,none⟩)) (.pointer (some ⟨w.heap.size,0,none⟩)) rfl qA rfl (fun a w1 h1=>by unfold execOp;simp only[h1,Sem.run_bind,aM w.heap.size];rfl) (dd rfl)) ?_
     refine lK (aJ 58 _ _ _ rfl rfl qA rfl c0 h0 (dd rfl)) ?_;refine lK (ai 10 (.inl rfl) rfl qA (dd rfl)) ?_;refine lK (ai 11 (.inl rfl) rfl qA (dd rfl)) ?_;refine lK (Hy 60 61 (ah tt main) (pa1 main) (pa2 main) rfl rfl qA qA rfl rfl qB (bK HT.out).2 (dd rfl)) ?_;refine lK (eP 59 62 (ss) (ae (ae (ah tt main) (pa1 main)) (pa2 main)) rfl rfl qA qA rfl rfl (dd rfl)) ?_;refine lK (sc 63 (ss) (ae (ae (ah tt main) (pa1 main)) (pa2 main)) rfl rfl qA rfl (dd rfl)) ?_;refine lK (ai 64 (.inr rfl) rfl qA (dd rfl)) ?_;refine lK (ik (.bool true) (.inr rfl) rfl (dd rfl)) True.intro
    ·intro s hs
     have:s=6∨s=10∨s=11:=by simpa using hs
     rcases this with rfl | rfl | rfl
     ·exact rfl
     ·exact i10
     ·exact i11
    ·intro f w' hk hv
     have g8:SqL w' (f 8) [(ss,ae (ae (ah tt main) (pa1 main)) (pa2 main))]:=hv 8 qC;have g9:f 9=.bool true:=hv 9 qC;obtain⟨p6,c6,e6,_⟩:=g8.shape;rw[e6] at g8;have G8:=hid g8;clear g8 hv;simp only[aN,Act.put,za,zb,zc,e6,g9];go_wp2_with fail;refine bodyPost_ret (v:=.tuple #[.slice p6 1 c6,.bool true]) (by simp[results,Tryz.results158,go_sem]) rfl ?_;exact aH.mk HP.out (fun e=>rfl) G8.out ((k1.trans kd).trans hk)
   ·rw[decide_eq_false hk] at HP
    have hk':(t.kind==3)=false:=by simpa using hk
    generalize t.kind=kk at*;clear hk;go_wp2_with fail;refine bodyPost_ret (v:=.tuple #[.slice none 0 0,.bool false]) (by simp[results,Tryz.results158,go_sem]) rfl ?_;exact aH.mk (ps:=[]) (b:=false) (ps':=[]) (by rw[HP.out];rfl) (fun e=>by cases e) (SqL.none0 _ _) (k1.trans kc)
  by_cases e8:r=8
  ·subst e8
   have HP:Hid (rpR (lgN lg) (8:Int).toNat ss tt main=if (iM (txF main))=true then some [(ae ss (pa1 main),ae (ah tt main) (pa2 main))] else none):=hid rfl;rw[h9.out,←vL] at HP
   by_cases hk:t.kind=4
   ·rw[decide_eq_true hk] at HP
    rw[hk] at z0;have x6:Hid ((bS t).map txS=[pa1 main,pa2 main]):=hid (by rw[gF qB,pa1,pa2,h9.out];rfl);clear hk
    go_upto_region 7 with fail
    have kd:=kc.trans (aa.refl wc).drew;have eE:=x7.out.keeps kd;have c0:=eE.cell 0 qD;have c1:=eE.cell 1 qD;simp only[zj,zl] at c0 c1;have h0:=HA.out.keeps kd;have h1:=HC.out.keeps kd;have i10:=x9.out.keeps (aa.refl wc).drew;have i11:=H7.out.keeps (aa.refl wc).drew;rw[x6.out] at i11;refine ao (L:=17) (nt:=131) (ins:=[6,10,11]) (ds:=[75,76,77,78,79,80,81,82,83,84,85,86,87,88,89,8,9]) qA qA (fun s v w'=>((fun s=>if s=6 then .val (.pointer (some ⟨w.heap.size,0,none⟩)) else if s=8 then .sqs [(ae ss (pa1 main),ae (ah tt main) (pa2 main))] else if s=9 then .val (.bool true) else if s=10 then .strs (ah tt main) else if s=11 then .strs [pa1 main,pa2 main] else if s=75 then .val (.pointer (some ⟨w.heap.size,0,none⟩)) else if s=76 then .strs (ss) else if s=77 then .strs [pa1 main,pa2 main] else if s=78 then qH (pa1 main) else if s=79 then .val (.string (pa1 main)) else if s=80 then .strs [pa1 main] else if s=81 then .strs (ae ss (pa1 main)) else if s=82 then .strs (ah tt main) else if s=83 then .strs [pa1 main,pa2 main] else if s=84 then qH (pa2 main) else if s=85 then .val (.string (pa2 main)) else if s=86 then .strs [pa2 main] else if s=87 then .strs (ae (ah tt main) (pa2 main)) else if s=88 then .sq (ae ss (pa1 main)) (ae (ah tt main) (pa2 main)) else if s=89 then .sqs [(ae ss (pa1 main),ae (ah tt main) (pa2 main))] else .any:Nat→Kq) s).holds v w') (fun _ _ _ _ h hv=>Kq.keeps h hv) ?_ qA rfl ?_ ?_
    ·refine lK (aD 6 (.pointer (some ⟨w.heap.size,0,none⟩)) (.pointer (some ⟨w.heap.size,0,none⟩)) rfl qA rfl (fun a w1 h1=>by unfold execOp;simp only[h1,Sem.run_bind,aM w.heap.size];rfl) (dd rfl)) ?_
     refine lK (aJ 75 _ _ _ rfl rfl qA rfl c0 h0 (dd rfl)) ?_;refine lK (ai 11 (.inl rfl) rfl qA (dd rfl)) ?_;refine lK (tS 77 0 [pa1 main,pa2 main] (pa1 main) rfl rfl qA rfl rfl (dd rfl)) ?_;refine lK (il 78 (pa1 main) rfl rfl qA rfl (dd rfl)) ?_;refine lK (qh 79 (pa1 main) rfl rfl qA rfl (dd rfl)) ?_;refine lK (jL 76 80 (ss) (pa1 main) rfl rfl qA qA rfl rfl qB HS.out.2 (dd rfl)) ?_;refine lK (ai 10 (.inl rfl) rfl qA (dd rfl)) ?_;refine lK (ai 11 (.inl rfl) rfl qA (dd rfl)) ?_;refine lK (tS 83 1 [pa1 main,pa2 main] (pa2 main) rfl rfl qA rfl rfl (dd rfl)) ?_;refine lK (il 84 (pa2 main) rfl rfl qA rfl (dd rfl)) ?_;refine lK (qh 85 (pa2 main) rfl rfl qA rfl (dd rfl)) ?_;refine lK (jL 82 86 (ah tt main) (pa2 main) rfl rfl qA qA rfl rfl qB (bK HT.out).2 (dd rfl)) ?_;refine lK (eP 81 87 (ae ss (pa1 main)) (ae (ah tt main) (pa2 main)) rfl rfl qA qA rfl rfl (dd rfl)) ?_;refine lK (sc 88 (ae ss (pa1 main)) (ae (ah tt main) (pa2 main)) rfl rfl qA rfl (dd rfl)) ?_;refine lK (ai 89 (.inr rfl) rfl qA (dd rfl)) ?_;refine lK (ik (.bool true) (.inr rfl) rfl (dd rfl)) True.intro
    ·intro s hs
     have:s=6∨s=10∨s=11:=by simpa using hs
     rcases this with rfl | rfl | rfl
     ·exact rfl
     ·exact i10
     ·exact i11
    ·intro f w' hk hv
     have g8:SqL w' (f 8) [(ae ss (pa1 main),ae (ah tt main) (pa2 main))]:=hv 8 qC;have g9:f 9=.bool true:=hv 9 qC;obtain⟨p6,c6,e6,_⟩:=g8.shape;rw[e6] at g8;have G8:=hid g8;clear g8 hv;simp only[aN,Act.put,za,zb,zc,e6,g9];go_wp2_with fail;refine bodyPost_ret (v:=.tuple #[.slice p6 1 c6,.bool true]) (by simp[results,Tryz.results158,go_sem]) rfl ?_;exact aH.mk HP.out (fun e=>rfl) G8.out ((k1.trans kd).trans hk)
   ·rw[decide_eq_false hk] at HP
    have hk':(t.kind==4)=false:=by simpa using hk
    generalize t.kind=kk at*;clear hk;go_wp2_with fail;refine bodyPost_ret (v:=.tuple #[.slice none 0 0,.bool false]) (by simp[results,Tryz.results158,go_sem]) rfl ?_;exact aH.mk (ps:=[]) (b:=false) (ps':=[]) (by rw[HP.out];rfl) (fun e=>by cases e) (SqL.none0 _ _) (k1.trans kc)
  by_cases e10:r=10
  ·subst e10
   have HP:Hid (rpR (lgN lg) (10:Int).toNat ss tt main=if (bR (txF main)&&rfL (lgN lg))=true then some [(ss,ae tt (paI main))] else none):=hid rfl;rw[h9.out,←vK] at HP
   by_cases hk:t.kind=6
   ·rw[decide_eq_true hk] at HP
    rw[hk] at z0;have x6:Hid ((bS t).map txS=[paI main]):=hid (by rw[lB qB,paI,h9.out];rfl);clear hk;have KR:=hid (fun wz=>fY (lgN lg) KP.out.1 wz);rw[←KP.out.2] at KR;rw[Bool.true_and,show rfL (lgN lg)=decide (lgN lg=2∨lgN lg=4∨lgN lg=6) from rfl] at HP;generalize decide (lgN lg=2∨lgN lg=4∨lgN lg=6)=rf at*
    skip
    go_wp2_with fail;refine(KR.out _).mono ?_;rintro e w' ⟨rfl,rfl⟩
    cases rf
    ·go_wp2_with fail
     refine bodyPost_ret (v:=.tuple #[.slice none 0 0,.bool false]) (by simp[results,Tryz.results158,go_sem]) rfl ?_;exact aH.mk (ps:=[]) HP.out (fun e=>by cases e) (SqL.none0 _ _) (k1.trans kc)
    ·go_upto_region 9 with fail
     have kd:=kc.trans (aa.refl wc).drew;have eE:=x7.out.keeps kd;have c0:=eE.cell 0 qD;have c1:=eE.cell 1 qD;simp only[zj,zl] at c0 c1;have h0:=HA.out.keeps kd;have h1:=HC.out.keeps kd;have i10:=x9.out.keeps (aa.refl wc).drew;have i11:=H7.out.keeps (aa.refl wc).drew;rw[x6.out] at i11;refine ao (L:=13) (nt:=131) (ins:=[6,11]) (ds:=[104,105,106,107,108,109,110,111,112,113,114,8,9]) qA qA (fun s v w'=>((fun s=>if s=6 then .val (.pointer (some ⟨w.heap.size,0,none⟩)) else if s=8 then .sqs [(ss,ae tt (paI main))] else if s=9 then .val (.bool true) else if s=11 then .strs [paI main] else if s=104 then .val (.pointer (some ⟨w.heap.size,0,none⟩)) else if s=105 then .strs (ss) else if s=106 then .val (.pointer (some ⟨w.heap.size,1,none⟩)) else if s=107 then .strs (tt) else if s=108 then .strs [paI main] else if s=109 then qH (paI main) else if s=110 then .val (.string (paI main)) else if s=111 then .strs [paI main] else if s=112 then .strs (ae tt (paI main)) else if s=113 then .sq (ss) (ae tt (paI main)) else if s=114 then .sqs [(ss,ae tt (paI main))] else .any:Nat→Kq) s).holds v w') (fun _ _ _ _ h hv=>Kq.keeps h hv) ?_ qA rfl ?_ ?_
     ·refine lK (aD 6 (.pointer (some ⟨w.heap.size,0,none⟩)) (.pointer (some ⟨w.heap.size,0,none⟩)) rfl qA rfl (fun a w1 h1=>by unfold execOp;simp only[h1,Sem.run_bind,aM w.heap.size];rfl) (dd rfl)) ?_
      refine lK (aJ 104 _ _ _ rfl rfl qA rfl c0 h0 (dd rfl)) ?_;refine lK (aD 6 (.pointer (some ⟨w.heap.size,0,none⟩)) (.pointer (some ⟨w.heap.size,1,none⟩)) rfl qA rfl (fun a w1 h1=>by unfold execOp;simp only[h1,Sem.run_bind,aL w.heap.size];rfl) (dd rfl)) ?_;refine lK (aJ 106 _ _ _ rfl rfl qA rfl c1 h1 (dd rfl)) ?_;refine lK (ai 11 (.inl rfl) rfl qA (dd rfl)) ?_;refine lK (tS 108 0 [paI main] (paI main) rfl rfl qA rfl rfl (dd rfl)) ?_;refine lK (il 109 (paI main) rfl rfl qA rfl (dd rfl)) ?_;refine lK (qh 110 (paI main) rfl rfl qA rfl (dd rfl)) ?_;refine lK (jL 107 111 (tt) (paI main) rfl rfl qA qA rfl rfl qB HT.out.2 (dd rfl)) ?_;refine lK (eP 105 112 (ss) (ae tt (paI main)) rfl rfl qA qA rfl rfl (dd rfl)) ?_;refine lK (sc 113 (ss) (ae tt (paI main)) rfl rfl qA rfl (dd rfl)) ?_;refine lK (ai 114 (.inr rfl) rfl qA (dd rfl)) ?_;refine lK (ik (.bool true) (.inr rfl) rfl (dd rfl)) True.intro
     ·intro s hs
      have:s=6∨s=11:=by simpa using hs
      rcases this with rfl | rfl
      ·exact rfl
      ·exact i11
     ·intro f w' hk hv
      have g8:SqL w' (f 8) [(ss,ae tt (paI main))]:=hv 8 qC;have g9:f 9=.bool true:=hv 9 qC;obtain⟨p6,c6,e6,_⟩:=g8.shape;rw[e6] at g8;have G8:=hid g8;clear g8 hv;simp only[aN,Act.put,za,zb,zc,e6,g9];go_wp2_with fail;refine bodyPost_ret (v:=.tuple #[.slice p6 1 c6,.bool true]) (by simp[results,Tryz.results158,go_sem]) rfl ?_;exact aH.mk HP.out (fun e=>rfl) G8.out ((k1.trans kd).trans hk)
   ·rw[decide_eq_false hk] at HP
    have hk':(t.kind==6)=false:=by simpa using hk
    generalize t.kind=kk at*;clear hk;go_wp2_with fail;refine bodyPost_ret (v:=.tuple #[.slice none 0 0,.bool false]) (by simp[results,Tryz.results158,go_sem]) rfl ?_;exact aH.mk (ps:=[]) (b:=false) (ps':=[]) (by rw[HP.out];rfl) (fun e=>by cases e) (SqL.none0 _ _) (k1.trans kc)
  by_cases e11:r=11
  ·subst e11
   have HP:Hid (rpR (lgN lg) (11:Int).toNat ss tt main=if (bg (txF main))=true then some [((mdQ (lgN lg) ss tt main).1,(mdQ (lgN lg) ss tt main).2)] else none):=hid rfl;rw[h9.out,←vJ] at HP
   by_cases hk:t.kind=5
   ·rw[decide_eq_true hk] at HP
    rw[hk] at z0;have x6:Hid ((bS t).map txS=[paI main]):=hid (by rw[lB qB,paI,h9.out];rfl);have KU:Hid (t.kind=5∨t.kind=6):=hid qB;clear hk
    go_upto_region 11 with fail
    have kd:=kc.trans (aa.refl wc).drew;have eE:=x7.out.keeps kd;have h0:=HA.out.keeps kd;have h1:=HC.out.keeps kd;have i3:=H8.out.keeps kd;refine ao (L:=8) (nt:=131) (ins:=[0,3,6]) (ds:=[125,126,127,128,129,130,8,9]) qA qA (fun s v w'=>((fun s=>if s=0 then .val (.string lg) else if s=3 then .nd t else if s=6 then .val (.pointer (some ⟨w.heap.size,0,none⟩)) else if s=8 then .sqs [((mdQ (lgN lg) ss tt main).1,(mdQ (lgN lg) ss tt main).2)] else if s=9 then .val (.bool true) else if s=125 then .val (.string lg) else if s=126 then .sq (ss) (tt) else if s=127 then .nd t else if s=128 then .val (.string main) else if s=129 then .sq ((mdQ (lgN lg) ss tt main).1) ((mdQ (lgN lg) ss tt main).2) else if s=130 then .sqs [((mdQ (lgN lg) ss tt main).1,(mdQ (lgN lg) ss tt main).2)] else .any:Nat→Kq) s).holds v w') (fun _ _ _ _ h hv=>Kq.keeps h hv) ?_ qA rfl ?_ ?_
    ·refine lK (ai 0 (.inl rfl) rfl qA (dd rfl)) ?_
     refine lK (rZ 6 (w.heap.size) _ _ (ss) (tt) rfl rfl qA rfl eE h0 h1 (dd rfl)) ?_;refine lK (ai 3 (.inl rfl) rfl qA (dd rfl)) ?_;refine lK (vG 127 t main rfl rfl qA rfl x8.out (dd rfl)) ?_;refine lK (DX 125 126 128 lg main ss tt rfl rfl qA qA qA rfl rfl rfl HS.out HT.out ⟨qB,qB⟩ (.inr ⟨t,x8.out,KU.out⟩) (dd rfl)) ?_;refine lK (sc 129 ((mdQ (lgN lg) ss tt main).1) ((mdQ (lgN lg) ss tt main).2) rfl rfl qA rfl (dd rfl)) ?_;refine lK (ai 130 (.inr rfl) rfl qA (dd rfl)) ?_;refine lK (ik (.bool true) (.inr rfl) rfl (dd rfl)) True.intro
    ·intro s hs
     have:s=0∨s=3∨s=6:=by simpa using hs
     rcases this with rfl | rfl | rfl
     ·exact rfl
     ·exact i3
     ·exact rfl
    ·intro f w' hk hv
     have g8:SqL w' (f 8) [((mdQ (lgN lg) ss tt main).1,(mdQ (lgN lg) ss tt main).2)]:=hv 8 qC;have g9:f 9=.bool true:=hv 9 qC;obtain⟨p6,c6,e6,_⟩:=g8.shape;rw[e6] at g8;have G8:=hid g8;clear g8 hv;simp only[aN,Act.put,za,zb,zc,e6,g9];go_wp2_with fail;refine bodyPost_ret (v:=.tuple #[.slice p6 1 c6,.bool true]) (by simp[results,Tryz.results158,go_sem]) rfl ?_;exact aH.mk HP.out (fun e=>rfl) G8.out ((k1.trans kd).trans hk)
   ·rw[decide_eq_false hk] at HP
    have hk':(t.kind==5)=false:=by simpa using hk
    generalize t.kind=kk at*;clear hk;go_wp2_with fail;refine bodyPost_ret (v:=.tuple #[.slice none 0 0,.bool false]) (by simp[results,Tryz.results158,go_sem]) rfl ?_;exact aH.mk (ps:=[]) (b:=false) (ps':=[]) (by rw[HP.out];rfl) (fun e=>by cases e) (SqL.none0 _ _) (k1.trans kc)
  have HP:Hid (rpR (lgN lg) r.toNat ss tt main=none):=hid (by
   unfold rpR
   rw[if_neg qB,if_neg qB,if_neg qB,if_neg qB,if_neg qB])
  have q4:(r==4)=false:=by simpa using e4
  have q6:(r==6)=false:=by simpa using e6
  have q8:(r==8)=false:=by simpa using e8
  have q10:(r==10)=false:=by simpa using e10
  have q11:(r==11)=false:=by simpa using e11
  clear e4 e6 e8 e10 e11;go_wp2_with fail;refine bodyPost_ret (v:=.tuple #[.slice none 0 0,.bool false]) (by simp[results,Tryz.results158,go_sem]) rfl ?_;exact aH.mk (ps:=[]) (b:=false) (ps':=[]) (by rw[HP.out];rfl) (fun e=>by cases e) (SqL.none0 _ _) (k1.trans kc)
end Go.Proofs.YtagoboblkadelaaGreat
