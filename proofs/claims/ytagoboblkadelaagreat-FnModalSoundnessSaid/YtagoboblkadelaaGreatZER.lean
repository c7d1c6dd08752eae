import Derived.Test.YtagoboblkadelaaGreatZEP
/- own -/
namespace Go.Proofs.YtagoboblkadelaaGreat
open Go.RowKit
theorem Fc {s:ByteArray} {t:Fm} (h:ck s t):s≠⟨#[]⟩:=fun e=>by
 subst e;have h1:=h.2.1;have h2:=my t;rw[←h1] at h2;exact absurd h2 qC
theorem JW {L:Nat} {ss tt:List ByteArray} {main:ByteArray} (ht:aW tt) (h:onS tt main bg=true):mdQ L ss tt main=oE L ss tt main∧(main=⟨#[]⟩∨∃ t,ck main t∧(t.kind=5∨t.kind=6)):=by
 obtain⟨h1,_,h3⟩:=eB h;have hx:=gq (ht.1 main h1);refine⟨?_,.inr ⟨_,hx,.inl ?_⟩⟩
 ·unfold mdQ
  rw[if_neg (Fc hx),if_pos h3]
 ·rw[←gz] at h3
  exact of_decide_eq_true h3
theorem JX {L:Nat} {ss tt:List ByteArray} {main:ByteArray} (hs:aW ss) (h:onS ss main bR=true):mdQ L ss tt main=oG L ss tt main∧(main=⟨#[]⟩∨∃ t,ck main t∧(t.kind=5∨t.kind=6)):=by
 obtain⟨h1,_,h3⟩:=eB h;have hx:=gq (hs.1 main h1);rw[←hO] at h3;have h6:(txF main).kind=6:=of_decide_eq_true h3;refine⟨?_,.inr ⟨_,hx,.inr h6⟩⟩;unfold mdQ;rw[if_neg (Fc hx),if_neg];rw[←gz];unfold a6;rw[h6]
 decide
set_option maxRecDepth 20000 in
set_option maxHeartbeats 8000000 in
theorem jM (lg:ByteArray) (r:Int) (main:ByteArray) (ss tt:List ByteArray) (hs:aW ss) (ht:aW tt) (a b:Value) (w:World) (ha:aj w a ss) (hb:aj w b tt) (hl:ss.length≤1000∧tt.length≤1000) (La:main.size≤10000000):
  Calls Tryz.prog 100 #[.string lg,.int .i64 r,.agg #[a,b],.string main] w (aH w (bM (lgN lg) r.toNat ss tt main)):=by
 obtain⟨p,n,c,rfl⟩:=ha.sh;obtain⟨q,m,d,rfl⟩:=hb.sh;have k1:=(aa.refl w).alloc (.cells #[.slice p n c,.slice q m d] 29);have b1:=aR.made w 29 [.slice p n c,.slice q m d] qD qD;have eE:=hid b1;have HA:=hid (ha.keeps k1);have HC:=hid (hb.keeps k1);have HS:=hid hs;have HT:=hid ht;obtain⟨l1,l2⟩:=hl;clear ha hb b1 hs ht;go_enter Tryz.func100,Tryz.ntmps100
 go_upto_region 1 with fail
 generalize w.alloc (.cells #[.slice p n c,.slice q m d] 29)=w1 at*
 go_cut [10] from 23 to 32 (fun v wx=>v=.bool (rfL (lgN lg))∧wx=w1)
 case first=>
  have e1:=nmT lg;have e2:=IT lg;have e3:=IU lg
  have hr:rfL (lgN lg)=(decide (lgN lg=2)||(decide (lgN lg=4)||decide (lgN lg=6))):=by
   unfold rfL
   by_cases h1:lgN lg=2<;>by_cases h2:lgN lg=4<;>by_cases h3:lgN lg=6<;>simp[h1,h2,h3]
  have HR:=hid hr;clear hr;generalize decide (lgN lg=2)=d2 at*;generalize decide (lgN lg=4)=d4 at*;generalize decide (lgN lg=6)=d6 at*
  cases d2<;>cases d4<;>cases d6<;>(go_wp2_with fail;go_meet;exact⟨by rw[HR.out];rfl,rfl⟩)
 case rest=>
  obtain⟨rfl,rfl⟩:=hcut;have z0:=eE.out.cell 0 qD;have z1:=eE.out.cell 1 qD;simp only[zj,zl] at z0 z1
  by_cases e9:r=9
  ·subst e9
   have x9:=hid (fun wz (kz:aa wc wz)=>dP ss HS.out.1 _ main 5 qB wz (HA.out.keeps kz).1);have HP:Hid (bM (lgN lg) (9:Int).toNat ss tt main=if (onS ss main bg&&rfL (lgN lg))=true then some [(ae (ss) (paI main),tt)] else none):=hid rfl;generalize rfL (lgN lg)=rf at*;go_wp2_with fail;refine(x9.out _ (aa.refl wc)).mono ?_;rintro e w2 ⟨x,y,rfl,H9,k2⟩;have x8:=hid H9;clear H9 x9 z0 z1;rw[gz] at x8 ⊢;generalize onS ss main bg=ok at*
   cases ok
   ·go_upto_region 5 with fail
    have kd:=k2.trans (aa.refl w2).drew;have c0:=(eE.out.keeps kd).cell 0 qD;have c1:=(eE.out.keeps kd).cell 1 qD;simp only[zj,zl] at c0 c1;have h0:=HA.out.keeps kd;have h1:=HC.out.keeps kd;refine ao (L:=14) (nt:=125) (ins:=[6,10,11,13]) (ds:=[44,45,46,47,48,49,50,51,52,53,54,55,8,9]) qA qA (fun s v w'=>((fun s=>if s=6 then .val (.pointer (some ⟨w.heap.size,0,none⟩)) else if s=8 then .sqs [(ae (ss) x,tt)] else if s=9 then .val (.bool false) else if s=10 then .val (.bool rf) else if s=11 then .val (.string x) else if s=13 then .val (.bool false) else if s=44 then .val (.pointer (some ⟨w.heap.size,0,none⟩)) else if s=45 then .strs (ss) else if s=46 then .val (.string x) else if s=47 then .strs (ae (ss) x) else if s=48 then .val (.pointer (some ⟨w.heap.size,1,none⟩)) else if s=49 then .strs (tt) else if s=50 then .sds [ae (ss) x,tt] else if s=51 then .sqs [(ae (ss) x,tt)] else if s=52 then .val (.bool false) else if s=53 then .val (.bool false) else if s=55 then .val (.bool false) else .any:Nat→Kq) s).holds v w') (fun _ _ _ _ h hv=>Kq.keeps h hv) ?_ qA rfl ?_ ?_
    ·refine lK (aD 6 (.pointer (some ⟨w.heap.size,0,none⟩)) (.pointer (some ⟨w.heap.size,0,none⟩)) rfl qA rfl (fun a w1 h1=>by unfold execOp;simp only[h1,Sem.run_bind,aM w.heap.size];rfl) (dd rfl)) ?_
     refine lK (aJ 44 _ _ _ rfl rfl qA rfl c0 h0 (dd rfl)) ?_;refine lK (ai 11 (.inl rfl) rfl qA (dd rfl)) ?_;refine lK (jS 45 46 (ss) x rfl rfl qA qA rfl rfl qB (dd rfl)) ?_;refine lK (aD 6 (.pointer (some ⟨w.heap.size,0,none⟩)) (.pointer (some ⟨w.heap.size,1,none⟩)) rfl qA rfl (fun a w1 h1=>by unfold execOp;simp only[h1,Sem.run_bind,aL w.heap.size];rfl) (dd rfl)) ?_;refine lK (aJ 48 _ _ _ rfl rfl qA rfl c1 h1 (dd rfl)) ?_;refine lK (lq 47 49 (ae (ss) x) (tt) rfl rfl qA qA rfl rfl (dd rfl)) ?_;refine lK (ki 50 [(ae (ss) x,tt)] rfl rfl qA rfl qD (fun p hp=>by obtain rfl:=List.mem_singleton.1 hp;have:=(aX (ss) x).1;exact⟨by show(ae (ss) x).length≤1000000;omega,by show(tt).length≤1000000;omega⟩) (dd rfl)) ?_;refine lK (ai 13 (.inl rfl) rfl qA (dd rfl)) ?_;refine lK (ai 52 (.inl rfl) rfl qA (dd rfl)) ?_;refine lK (cJ 9 53 false rfl rfl qC qA rfl (dd rfl)) ?_;refine lK (im 53 _ (.bool false) rfl rfl qA rfl (dd rfl)) ?_;refine lK (ai 51 (.inr rfl) rfl qA (dd rfl)) ?_;refine lK (ai 55 (.inr rfl) rfl qA (dd rfl)) True.intro
    ·intro s hs
     have:s=6∨s=10∨s=11∨s=13:=by simpa using hs
     rcases this with rfl | rfl | rfl | rfl<;>rfl
    ·intro f w' hk hv
     have g6:SqL w' (f 8) [(ae (ss) x,tt)]:=hv 8 qC;have g7:f 9=.bool false:=hv 9 qC;obtain⟨p6,c6,e6,_⟩:=g6.shape;rw[e6] at g6;have G6:=hid g6;clear g6 hv;simp only[aN,Act.put,za,zb,zc,e6,g7];go_wp2_with fail;refine bodyPost_ret (v:=.tuple #[.slice p6 1 c6,.bool false]) (by simp[results,Tryz.results100,go_sem]) rfl ?_;refine aH.mk HP.out (fun e=>?_) G6.out ((k1.trans kd).trans hk)
     cases e
   ·go_upto_region 5 with fail
    have kd:=k2.trans (aa.refl w2).drew;have c0:=(eE.out.keeps kd).cell 0 qD;have c1:=(eE.out.keeps kd).cell 1 qD;simp only[zj,zl] at c0 c1;have h0:=HA.out.keeps kd;have h1:=HC.out.keeps kd;refine ao (L:=14) (nt:=125) (ins:=[6,10,11,13]) (ds:=[44,45,46,47,48,49,50,51,52,53,54,55,8,9]) qA qA (fun s v w'=>((fun s=>if s=6 then .val (.pointer (some ⟨w.heap.size,0,none⟩)) else if s=8 then .sqs [(ae (ss) x,tt)] else if s=9 then .val (.bool rf) else if s=10 then .val (.bool rf) else if s=11 then .val (.string x) else if s=13 then .val (.bool true) else if s=44 then .val (.pointer (some ⟨w.heap.size,0,none⟩)) else if s=45 then .strs (ss) else if s=46 then .val (.string x) else if s=47 then .strs (ae (ss) x) else if s=48 then .val (.pointer (some ⟨w.heap.size,1,none⟩)) else if s=49 then .strs (tt) else if s=50 then .sds [ae (ss) x,tt] else if s=51 then .sqs [(ae (ss) x,tt)] else if s=52 then .val (.bool true) else if s=53 then .val (.bool true) else if s=54 then .val (.bool rf) else if s=55 then .val (.bool rf) else .any:Nat→Kq) s).holds v w') (fun _ _ _ _ h hv=>Kq.keeps h hv) ?_ qA rfl ?_ ?_
    ·refine lK (aD 6 (.pointer (some ⟨w.heap.size,0,none⟩)) (.pointer (some ⟨w.heap.size,0,none⟩)) rfl qA rfl (fun a w1 h1=>by unfold execOp;simp only[h1,Sem.run_bind,aM w.heap.size];rfl) (dd rfl)) ?_
     refine lK (aJ 44 _ _ _ rfl rfl qA rfl c0 h0 (dd rfl)) ?_;refine lK (ai 11 (.inl rfl) rfl qA (dd rfl)) ?_;refine lK (jS 45 46 (ss) x rfl rfl qA qA rfl rfl qB (dd rfl)) ?_;refine lK (aD 6 (.pointer (some ⟨w.heap.size,0,none⟩)) (.pointer (some ⟨w.heap.size,1,none⟩)) rfl qA rfl (fun a w1 h1=>by unfold execOp;simp only[h1,Sem.run_bind,aL w.heap.size];rfl) (dd rfl)) ?_;refine lK (aJ 48 _ _ _ rfl rfl qA rfl c1 h1 (dd rfl)) ?_;refine lK (lq 47 49 (ae (ss) x) (tt) rfl rfl qA qA rfl rfl (dd rfl)) ?_;refine lK (ki 50 [(ae (ss) x,tt)] rfl rfl qA rfl qD (fun p hp=>by obtain rfl:=List.mem_singleton.1 hp;have:=(aX (ss) x).1;exact⟨by show(ae (ss) x).length≤1000000;omega,by show(tt).length≤1000000;omega⟩) (dd rfl)) ?_;refine lK (ai 13 (.inl rfl) rfl qA (dd rfl)) ?_;refine lK (ai 52 (.inl rfl) rfl qA (dd rfl)) ?_;refine lK (Gd 9 53 true 10 (.bool rf) (.bool rf) rfl rfl qC qA rfl qA rfl (fun a w1 h1=>by unfold execOp;simp only[h1,Sem.run_pure]) (dd rfl)) ?_;refine lK (iq 53 54 _ (.bool rf) rfl rfl qA qA rfl rfl (dd rfl)) ?_;refine lK (ai 51 (.inr rfl) rfl qA (dd rfl)) ?_;refine lK (ai 55 (.inr rfl) rfl qA (dd rfl)) True.intro
    ·intro s hs
     have:s=6∨s=10∨s=11∨s=13:=by simpa using hs
     rcases this with rfl | rfl | rfl | rfl<;>rfl
    ·intro f w' hk hv
     have g6:SqL w' (f 8) [(ae (ss) x,tt)]:=hv 8 qC;have g7:f 9=.bool rf:=hv 9 qC;obtain⟨p6,c6,e6,_⟩:=g6.shape;rw[e6] at g6;have G6:=hid g6;clear g6 hv;simp only[aN,Act.put,za,zb,zc,e6,g7];go_wp2_with fail;refine bodyPost_ret (v:=.tuple #[.slice p6 1 c6,.bool rf]) (by simp[results,Tryz.results100,go_sem]) rfl ?_;refine aH.mk HP.out (fun e=>?_) G6.out ((k1.trans kd).trans hk);obtain rfl:=(x8.out trivial).1 qC;rfl
  by_cases e10:r=10
  ·subst e10
   have x9:=hid (fun wz (kz:aa wc wz)=>dP tt HT.out.1 _ main 6 qB wz (HC.out.keeps kz).1);have HP:Hid (bM (lgN lg) (10:Int).toNat ss tt main=if (onS tt main bR&&rfL (lgN lg))=true then some [(ss,ae (tt) (paI main))] else none):=hid rfl;generalize rfL (lgN lg)=rf at*;go_wp2_with fail;refine(x9.out _ (aa.refl wc)).mono ?_;rintro e w2 ⟨x,y,rfl,H9,k2⟩;have x8:=hid H9;clear H9 x9 z0 z1;rw[hO] at x8 ⊢;generalize onS tt main bR=ok at*
   cases ok
   ·go_upto_region 8 with fail
    have kd:=k2.trans (aa.refl w2).drew;have c0:=(eE.out.keeps kd).cell 0 qD;have c1:=(eE.out.keeps kd).cell 1 qD;simp only[zj,zl] at c0 c1;have h0:=HA.out.keeps kd;have h1:=HC.out.keeps kd;refine ao (L:=14) (nt:=125) (ins:=[6,10,14,16]) (ds:=[66,67,68,69,70,71,72,73,74,75,76,77,8,9]) qA qA (fun s v w'=>((fun s=>if s=6 then .val (.pointer (some ⟨w.heap.size,0,none⟩)) else if s=8 then .sqs [(ss,ae (tt) x)] else if s=9 then .val (.bool false) else if s=10 then .val (.bool rf) else if s=14 then .val (.string x) else if s=16 then .val (.bool false) else if s=66 then .val (.pointer (some ⟨w.heap.size,0,none⟩)) else if s=67 then .strs (ss) else if s=68 then .val (.pointer (some ⟨w.heap.size,1,none⟩)) else if s=69 then .strs (tt) else if s=70 then .val (.string x) else if s=71 then .strs (ae (tt) x) else if s=72 then .sds [ss,ae (tt) x] else if s=73 then .sqs [(ss,ae (tt) x)] else if s=74 then .val (.bool false) else if s=75 then .val (.bool false) else if s=77 then .val (.bool false) else .any:Nat→Kq) s).holds v w') (fun _ _ _ _ h hv=>Kq.keeps h hv) ?_ qA rfl ?_ ?_
    ·refine lK (aD 6 (.pointer (some ⟨w.heap.size,0,none⟩)) (.pointer (some ⟨w.heap.size,0,none⟩)) rfl qA rfl (fun a w1 h1=>by unfold execOp;simp only[h1,Sem.run_bind,aM w.heap.size];rfl) (dd rfl)) ?_
     refine lK (aJ 66 _ _ _ rfl rfl qA rfl c0 h0 (dd rfl)) ?_;refine lK (aD 6 (.pointer (some ⟨w.heap.size,0,none⟩)) (.pointer (some ⟨w.heap.size,1,none⟩)) rfl qA rfl (fun a w1 h1=>by unfold execOp;simp only[h1,Sem.run_bind,aL w.heap.size];rfl) (dd rfl)) ?_;refine lK (aJ 68 _ _ _ rfl rfl qA rfl c1 h1 (dd rfl)) ?_;refine lK (ai 14 (.inl rfl) rfl qA (dd rfl)) ?_;refine lK (jS 69 70 (tt) x rfl rfl qA qA rfl rfl qB (dd rfl)) ?_;refine lK (lq 67 71 (ss) (ae (tt) x) rfl rfl qA qA rfl rfl (dd rfl)) ?_;refine lK (ki 72 [(ss,ae (tt) x)] rfl rfl qA rfl qD (fun p hp=>by obtain rfl:=List.mem_singleton.1 hp;have:=(aX (tt) x).1;exact⟨by show(ss).length≤1000000;omega,by show(ae (tt) x).length≤1000000;omega⟩) (dd rfl)) ?_;refine lK (ai 16 (.inl rfl) rfl qA (dd rfl)) ?_;refine lK (ai 74 (.inl rfl) rfl qA (dd rfl)) ?_;refine lK (cJ 9 75 false rfl rfl qC qA rfl (dd rfl)) ?_;refine lK (im 75 _ (.bool false) rfl rfl qA rfl (dd rfl)) ?_;refine lK (ai 73 (.inr rfl) rfl qA (dd rfl)) ?_;refine lK (ai 77 (.inr rfl) rfl qA (dd rfl)) True.intro
    ·intro s hs
     have:s=6∨s=10∨s=14∨s=16:=by simpa using hs
     rcases this with rfl | rfl | rfl | rfl<;>rfl
    ·intro f w' hk hv
     have g6:SqL w' (f 8) [(ss,ae (tt) x)]:=hv 8 qC;have g7:f 9=.bool false:=hv 9 qC;obtain⟨p6,c6,e6,_⟩:=g6.shape;rw[e6] at g6;have G6:=hid g6;clear g6 hv;simp only[aN,Act.put,za,zb,zc,e6,g7];go_wp2_with fail;refine bodyPost_ret (v:=.tuple #[.slice p6 1 c6,.bool false]) (by simp[results,Tryz.results100,go_sem]) rfl ?_;refine aH.mk HP.out (fun e=>?_) G6.out ((k1.trans kd).trans hk)
     cases e
   ·go_upto_region 8 with fail
    have kd:=k2.trans (aa.refl w2).drew;have c0:=(eE.out.keeps kd).cell 0 qD;have c1:=(eE.out.keeps kd).cell 1 qD;simp only[zj,zl] at c0 c1;have h0:=HA.out.keeps kd;have h1:=HC.out.keeps kd;refine ao (L:=14) (nt:=125) (ins:=[6,10,14,16]) (ds:=[66,67,68,69,70,71,72,73,74,75,76,77,8,9]) qA qA (fun s v w'=>((fun s=>if s=6 then .val (.pointer (some ⟨w.heap.size,0,none⟩)) else if s=8 then .sqs [(ss,ae (tt) x)] else if s=9 then .val (.bool rf) else if s=10 then .val (.bool rf) else if s=14 then .val (.string x) else if s=16 then .val (.bool true) else if s=66 then .val (.pointer (some ⟨w.heap.size,0,none⟩)) else if s=67 then .strs (ss) else if s=68 then .val (.pointer (some ⟨w.heap.size,1,none⟩)) else if s=69 then .strs (tt) else if s=70 then .val (.string x) else if s=71 then .strs (ae (tt) x) else if s=72 then .sds [ss,ae (tt) x] else if s=73 then .sqs [(ss,ae (tt) x)] else if s=74 then .val (.bool true) else if s=75 then .val (.bool true) else if s=76 then .val (.bool rf) else if s=77 then .val (.bool rf) else .any:Nat→Kq) s).holds v w') (fun _ _ _ _ h hv=>Kq.keeps h hv) ?_ qA rfl ?_ ?_
    ·refine lK (aD 6 (.pointer (some ⟨w.heap.size,0,none⟩)) (.pointer (some ⟨w.heap.size,0,none⟩)) rfl qA rfl (fun a w1 h1=>by unfold execOp;simp only[h1,Sem.run_bind,aM w.heap.size];rfl) (dd rfl)) ?_
     refine lK (aJ 66 _ _ _ rfl rfl qA rfl c0 h0 (dd rfl)) ?_;refine lK (aD 6 (.pointer (some ⟨w.heap.size,0,none⟩)) (.pointer (some ⟨w.heap.size,1,none⟩)) rfl qA rfl (fun a w1 h1=>by unfold execOp;simp only[h1,Sem.run_bind,aL w.heap.size];rfl) (dd rfl)) ?_;refine lK (aJ 68 _ _ _ rfl rfl qA rfl c1 h1 (dd rfl)) ?_;refine lK (ai 14 (.inl rfl) rfl qA (dd rfl)) ?_;refine lK (jS 69 70 (tt) x rfl rfl qA qA rfl rfl qB (dd rfl)) ?_;refine lK (lq 67 71 (ss) (ae (tt) x) rfl rfl qA qA rfl rfl (dd rfl)) ?_;refine lK (ki 72 [(ss,ae (tt) x)] rfl rfl qA rfl qD (fun p hp=>by obtain rfl:=List.mem_singleton.1 hp;have:=(aX (tt) x).1;exact⟨by show(ss).length≤1000000;omega,by show(ae (tt) x).length≤1000000;omega⟩) (dd rfl)) ?_;refine lK (ai 16 (.inl rfl) rfl qA (dd rfl)) ?_;refine lK (ai 74 (.inl rfl) rfl qA (dd rfl)) ?_;refine lK (Gd 9 75 true 10 (.bool rf) (.bool rf) rfl rfl qC qA rfl qA rfl (fun a w1 h1=>by unfold execOp;simp only[h1,Sem.run_pure]) (dd rfl)) ?_;refine lK (iq 75 76 _ (.bool rf) rfl rfl qA qA rfl rfl (dd rfl)) ?_;refine lK (ai 73 (.inr rfl) rfl qA (dd rfl)) ?_;refine lK (ai 77 (.inr rfl) rfl qA (dd rfl)) True.intro
    ·intro s hs
     have:s=6∨s=10∨s=14∨s=16:=by simpa using hs
     rcases this with rfl | rfl | rfl | rfl<;>rfl
    ·intro f w' hk hv
     have g6:SqL w' (f 8) [(ss,ae (tt) x)]:=hv 8 qC;have g7:f 9=.bool rf:=hv 9 qC;obtain⟨p6,c6,e6,_⟩:=g6.shape;rw[e6] at g6;have G6:=hid g6;clear g6 hv;simp only[aN,Act.put,za,zb,zc,e6,g7];go_wp2_with fail;refine bodyPost_ret (v:=.tuple #[.slice p6 1 c6,.bool rf]) (by simp[results,Tryz.results100,go_sem]) rfl ?_;refine aH.mk HP.out (fun e=>?_) G6.out ((k1.trans kd).trans hk);obtain rfl:=(x8.out trivial).1 qC;rfl
  by_cases e11:r=11
  ·subst e11
   have H7:=hid (fun wz (kz:aa wc wz)=>dP tt HT.out.1 _ main 5 qB wz (HC.out.keeps kz).1);have H8:=hid (fun wz (kz:aa wc wz)=>dP ss HS.out.1 _ main 6 qB wz (HA.out.keeps kz).1);have HP:Hid (bM (lgN lg) (11:Int).toNat ss tt main=if onS tt main bg=true then some [oE (lgN lg) ss tt main] else if onS ss main bR=true then some [oG (lgN lg) ss tt main] else none):=hid rfl;have KZ:=hid (fun h=>JW (L:=lgN lg) (ss:=ss) (main:=main) HT.out h);have K0:=hid (fun h=>JX (L:=lgN lg) (tt:=tt) (main:=main) HS.out h);have KP:=hid (fun wz (kz:aa wc wz) (hm:main=⟨#[]⟩∨∃ t,ck main t∧(t.kind=5∨t.kind=6))=>mN lg main ss tt HS.out HT.out _ _ wz (HA.out.keeps kz) (HC.out.keeps kz) ⟨l1,l2⟩ hm);go_wp2_with fail;refine(H7.out _ (aa.refl wc)).mono ?_;rintro e w2 ⟨x1,y1,rfl,-,k2⟩;rw[gz];clear H7 z0 z1;have z0:=(eE.out.keeps k2).cell 0 qD;simp only[zj] at z0;go_wp2_with fail;refine(H8.out _ k2).mono ?_;rintro e w3 ⟨x2,y2,rfl,-,k3⟩;rw[hO];clear H8 z0;have k23:=k2.trans k3;have z0:=(eE.out.keeps k23).cell 0 qD;have z1:=(eE.out.keeps k23).cell 1 qD;simp only[zj,zl] at z0 z1;generalize onS tt main bg=o1 at*;generalize onS ss main bR=o2 at*
   cases o1
   ·cases o2
    ·go_wp2_with fail
     refine bodyPost_ret (v:=.tuple #[.slice none 0 0,.bool false]) (by simp[results,Tryz.results100,go_sem]) rfl ?_;exact aH.mk (ps:=[]) (ps':=[]) HP.out (fun e=>rfl) (SqL.none0 _ _) (k1.trans k23)
    ·obtain⟨e5,hm⟩:=K0.out rfl
     have h9:=hid (KP.out _ k23 hm);have HE:=hid e5;clear e5 hm;go_wp2_with fail;refine h9.out.mono ?_;rintro e w4 ⟨x4,y4,rfl,x6,x7,k4⟩;obtain⟨px,nx,cx,rfl⟩:=x6.sh;obtain⟨py,ny,cy,rfl⟩:=x7.sh
     have HQ:=hid (SqL.lit w4 [(.slice px nx cx,.slice py ny cy)] [mdQ (lgN lg) ss tt main] rfl qD (fun i h1 h2=>by
      obtain rfl:i=0:=by simp at h1;omega
      exact⟨x6,x7⟩))
     have KQ:=hid (k4.alloc (.cells #[.slice px nx cx,.slice py ny cy] 29));clear x6 x7;go_wp2_with fail;refine bodyPost_ret (v:=.tuple #[.slice (some ⟨w4.heap.size,0,none⟩) 1 1,.bool true]) (by simp[results,Tryz.results100,go_sem]) rfl ?_;exact aH.mk HP.out (fun e=>by rw[HE.out]) HQ.out ((k1.trans k23).trans KQ.out)
   ·obtain⟨e5,hm⟩:=KZ.out rfl
    have h9:=hid (KP.out _ k23 hm);have HE:=hid e5;clear e5 hm;go_wp2_with fail;refine h9.out.mono ?_;rintro e w4 ⟨x4,y4,rfl,x6,x7,k4⟩;obtain⟨px,nx,cx,rfl⟩:=x6.sh;obtain⟨py,ny,cy,rfl⟩:=x7.sh
    have HQ:=hid (SqL.lit w4 [(.slice px nx cx,.slice py ny cy)] [mdQ (lgN lg) ss tt main] rfl qD (fun i h1 h2=>by
     obtain rfl:i=0:=by simp at h1;omega
     exact⟨x6,x7⟩))
    have KQ:=hid (k4.alloc (.cells #[.slice px nx cx,.slice py ny cy] 29));clear x6 x7;go_wp2_with fail;refine bodyPost_ret (v:=.tuple #[.slice (some ⟨w4.heap.size,0,none⟩) 1 1,.bool true]) (by simp[results,Tryz.results100,go_sem]) rfl ?_;exact aH.mk HP.out (fun e=>by rw[HE.out]) HQ.out ((k1.trans k23).trans KQ.out)
  by_cases e12:r=12
  ·subst e12
   have HP:Hid (bM (lgN lg) (12:Int).toNat ss tt main=if (decide (main=⟨#[]⟩)&&decide (lgN lg=1))=true then some [(eJ (lgN lg) ss main,eQ (lgN lg) tt main)] else none):=hid rfl
   by_cases KR:main=⟨#[]⟩
   ·subst KR
    rw[decide_eq_true rfl] at HP;have KP:=hid (fun wz (kz:aa wc wz)=>mN lg ⟨#[]⟩ ss tt HS.out HT.out _ _ wz (HA.out.keeps kz) (HC.out.keeps kz) ⟨l1,l2⟩ (.inl rfl));have HE:Hid (mdQ (lgN lg) ss tt ⟨#[]⟩=(eJ (lgN lg) ss ⟨#[]⟩,eQ (lgN lg) tt ⟨#[]⟩)):=hid (by unfold mdQ;rw[if_pos rfl]);have e1:=nmD lg
    by_cases hd:lgN lg=1
    ·rw[decide_eq_true hd] at e1 HP
     clear hd;have h9:=hid (KP.out _ (aa.refl wc));go_wp2_with fail;refine h9.out.mono ?_;rintro e w4 ⟨x4,y4,rfl,x6,x7,k4⟩;obtain⟨px,nx,cx,rfl⟩:=x6.sh;obtain⟨py,ny,cy,rfl⟩:=x7.sh
     have HQ:=hid (SqL.lit w4 [(.slice px nx cx,.slice py ny cy)] [mdQ (lgN lg) ss tt ⟨#[]⟩] rfl qD (fun i h1 h2=>by
      obtain rfl:i=0:=by simp at h1;omega
      exact⟨x6,x7⟩))
     have KQ:=hid (k4.alloc (.cells #[.slice px nx cx,.slice py ny cy] 29));clear x6 x7;go_wp2_with fail;refine bodyPost_ret (v:=.tuple #[.slice (some ⟨w4.heap.size,0,none⟩) 1 1,.bool true]) (by simp[results,Tryz.results100,go_sem]) rfl ?_;exact aH.mk HP.out (fun e=>by rw[HE.out]) HQ.out (k1.trans KQ.out)
    ·rw[decide_eq_false hd] at e1 HP
     clear hd;go_wp2_with fail;refine bodyPost_ret (v:=.tuple #[.slice none 0 0,.bool false]) (by simp[results,Tryz.results100,go_sem]) rfl ?_;exact aH.mk (ps:=[]) HP.out (fun e=>by cases e) (SqL.none0 _ _) k1
   ·have Lb:=mm KR
    rw[decide_eq_false KR] at HP;clear KR;go_wp2_with fail;refine bodyPost_ret (v:=.tuple #[.slice none 0 0,.bool false]) (by simp[results,Tryz.results100,go_sem]) rfl ?_;exact aH.mk (ps:=[]) HP.out (fun e=>by cases e) (SqL.none0 _ _) k1
  have KY:=hid (vY (lgN lg) r main ss tt HS.out HT.out _ _ wc HA.out HC.out ⟨l1,l2⟩ ⟨e9,e10,e11,e12⟩ La)
  have q9:(r==9)=false:=by simpa using e9
  have q10:(r==10)=false:=by simpa using e10
  have q11:(r==11)=false:=by simpa using e11
  have q12:(r==12)=false:=by simpa using e12
  clear e9 e10 e11 e12;go_wp2_with fail;refine KY.out.mono ?_;rintro e w2 ⟨v,b,rfl,⟨p2,n2,c2,rfl⟩,KS,KT,k2⟩;have KU:=hid KS;have KV:=hid KT;clear KS KT;go_wp2_with fail;refine bodyPost_ret (v:=.tuple #[.slice p2 n2 c2,.bool b]) (by simp[results,Tryz.results100,go_sem]) rfl ?_;exact⟨_,b,rfl,⟨_,_,_,rfl⟩,KU.out,KV.out,k1.trans k2⟩
end Go.Proofs.YtagoboblkadelaaGreat
