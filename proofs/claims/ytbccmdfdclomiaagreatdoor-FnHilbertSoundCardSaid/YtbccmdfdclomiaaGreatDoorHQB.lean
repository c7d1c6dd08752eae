import Derived.Test.YtbccmdfdclomiaaGreatDoorHVC
import Derived.Lib.LaidTab
/- own -/
namespace Go.Proofs.YtbccmdfdclomiaaGreatDoor
set_option maxRecDepth 20000
set_option maxHeartbeats 1000000
open Go.RowKit
def IsTx (s:ByteArray) (t:Fm):Prop:=t.wf∧bts s=t.body∧t.enc.length≤40
theorem IsTx.inj {s:ByteArray} {t u:Fm} (h:IsTx s t) (k:IsTx s u):t=u:=body_inj h.1 k.1 (h.2.1.symm.trans k.2.1)
theorem IsTx.small {s:ByteArray} {t:Fm} (h:IsTx s t):s.size≤200:=by
 have:=body_len t;rw [←bts_len,h.2.1];have:=h.2.2;omega
noncomputable def isTx (s:ByteArray):Bool:=@decide (∃ t,IsTx s t) (Classical.propDecidable _)
theorem isTx_iff {s:ByteArray}:isTx s=true↔∃ t,IsTx s t:=by unfold isTx;exact @decide_eq_true_iff _ (Classical.propDecidable _)
theorem isTx_not {s:ByteArray}:isTx s=false↔∀ t,¬IsTx s t:=by unfold isTx;exact (@decide_eq_false_iff_not _ (Classical.propDecidable _)).trans not_exists
def ReadR (w:World) (s:ByteArray) (e:Ending) (w':World):Prop:=
 (∃ j:Nat,j≤s.size∧e=.returned (.tuple #[.slice none 0 0,.int .i64 j])∧Keeps w w')∨
 (∃ (v:Value) (t:Fm),t.wf∧t.enc.length≤3*s.size+1∧e=.returned (.tuple #[v,.int .i64 (-1)])∧OwnN w' w.heap.size v t.enc∧Keeps w w')
theorem l02ReadA (s:ByteArray) (w:World) (hs:s.size≤10000000):Calls Tryz.prog 180 #[.string s] w (ReadR w s):=by
 have h0:=RdAt.new w s 222 (by omega);have HR:=hid ((specReadA s.size).1 _ _ s 0 false h0 hs (by omega));have k0:=(Keeps.refl w).alloc (.cells #[.string s,.int .i64 0,.bool false] 222);clear h0;go_enter Tryz.func180,Tryz.ntmps180;go_wp2_with fail;refine HR.out.mono ?_;rintro e w1 ⟨v1,t1,j1,b1,rfl,hw1,hv1,h1,hj1,hl1,g1⟩;have kw:=k0.grown g1 (fun k hk=>by cases hk;exact Nat.le_refl _);obtain ⟨c0,c1,c2,f1,f2,le,sz⟩:=h1
 cases b1 with
 | true=>
  go_wp2_with fail
  go_quiet (fail)
  go_wp2_with fail;refine bodyPost_ret (v:=.tuple #[.slice none 0 0,.int .i64 j1]) (by simp [results,Tryz.results180,go_sem]) rfl ?_;exact Or.inl ⟨j1,le,rfl,kw.drewN _⟩
 | false=>
  by_cases hlt:j1<s.size
  ·have hlt':decide ((j1:Int)<s.size)=true:=by simp;omega
   go_wp2_with fail
   go_quiet (fail)
   go_wp2_with fail;refine bodyPost_ret (v:=.tuple #[.slice none 0 0,.int .i64 j1]) (by simp [results,Tryz.results180,go_sem]) rfl ?_;exact Or.inl ⟨j1,le,rfl,kw.drewN _⟩
  ·have hlt':decide ((j1:Int)<s.size)=false:=by simp;omega
   go_wp2_with fail;refine bodyPost_ret (v:=.tuple #[v1,.int .i64 (-1)]) (by simp [results,Tryz.results180,go_sem]) rfl ?_;exact Or.inr ⟨_,t1,hw1,by omega,rfl,hv1.mono (by simp),kw⟩
def ParsR (w:World) (s:ByteArray) (e:Ending) (w':World):Prop:=
 (∃ j c:Int,c≠0∧e=.returned (.tuple #[.slice none 0 0,.int .i64 j,.int .i64 c])∧Keeps w w')∨
 (∃ (v:Value) (t:Fm),t.wf∧t.enc.length≤40∧s.size≤200∧e=.returned (.tuple #[v,.int .i64 0,.int .i64 0])∧OwnN w' w.heap.size v t.enc∧Keeps w w')
theorem specParseA (s:ByteArray) (w:World) (hs:s.size≤10000000):Calls Tryz.prog 146 #[.string s] w (ParsR w s):=by
 by_cases h200:s.size>200
 ·have hs':(s.size:Int)>200:=by omega
  go_enter Tryz.func146,Tryz.ntmps146;go_wp2_with fail;refine bodyPost_ret (v:=.tuple #[.slice none 0 0,.int .i64 0,.int .i64 3]) (by simp [results,Tryz.results146,go_sem]) rfl ?_;exact Or.inl ⟨0,3,by decide,rfl,Keeps.refl _⟩
 ·have hs':¬((s.size:Int)>200):=by omega
  have HR:=hid (l02ReadA s w hs);go_enter Tryz.func146,Tryz.ntmps146;go_wp2_with fail;refine HR.out.mono ?_;rintro e w1 (⟨j,hj,rfl,k1⟩ | ⟨v1,t1,hw1,hl1,rfl,hv1,k1⟩)
  ·have hj':(j:Int)≥0:=by omega
   go_wp2_with fail;refine bodyPost_ret (v:=.tuple #[.slice none 0 0,.int .i64 j,.int .i64 6]) (by simp [results,Tryz.results146,go_sem]) rfl ?_;exact Or.inl ⟨j,6,by decide,rfl,k1⟩
  ·obtain ⟨p1,n1,q1,rfl⟩:∃ p n c,v1=.slice p n c:=by obtain ⟨p,c,e,_⟩:=At.of_own hv1;exact ⟨p,_,c,e⟩
   have hn1:n1=t1.enc.length:=by obtain ⟨p,c,e,_⟩:=At.of_own hv1;cases e;rfl
   have HN1:=hid hn1;clear hn1
   by_cases h40:t1.enc.length>40
   ·have hl1:(n1:Int)>40:=by have:=HN1.out;omega
    go_wp2_with fail;refine bodyPost_ret (v:=.tuple #[.slice none 0 0,.int .i64 0,.int .i64 3]) (by simp [results,Tryz.results146,go_sem]) rfl ?_;exact Or.inl ⟨0,3,by decide,rfl,k1⟩
   ·have hl1:¬((n1:Int)>40):=by have:=HN1.out;omega
    go_wp2_with fail;refine bodyPost_ret (v:=.tuple #[.slice p1 n1 q1,.int .i64 0,.int .i64 0]) (by simp [results,Tryz.results146,go_sem]) rfl ?_;exact Or.inr ⟨_,t1,hw1,by omega,by omega,rfl,hv1,k1⟩
def GoodR (w:World) (s:ByteArray) (e:Ending) (w':World):Prop:=
 ∃ v,e=.returned (.tuple #[v,.bool (isTx s)])∧Keeps w w'∧∀ t,IsTx s t→OwnN w' w.heap.size v t.enc
theorem specParseT (t:Fm) (s:ByteArray) (w:World) (h:IsTx s t):
  Calls Tryz.prog 146 #[.string s] w fun e w'=>∃ v,e=.returned (.tuple #[v,.int .i64 0,.int .i64 0])∧OwnN w' w.heap.size v t.enc∧Keeps w w':=by
 have hs:=h.small;obtain ⟨hw,hb,hl⟩:=h;have HR:=hid (l02Read_any t hw s w hb (by omega) (by omega))
 have hs':¬((s.size:Int)>200):=by omega
 clear hb;go_enter Tryz.func146,Tryz.ntmps146;go_wp2_with fail;refine HR.out.mono ?_;rintro e w1 ⟨v1,rfl,hv1,k1⟩
 obtain ⟨p1,n1,q1,rfl⟩:∃ p n c,v1=.slice p n c:=by obtain ⟨p,c,e,_⟩:=At.of_own hv1;exact ⟨p,_,c,e⟩
 have hn1:n1=t.enc.length:=by obtain ⟨p,c,e,_⟩:=At.of_own hv1;cases e;rfl
 have hl1:¬((n1:Int)>40):=by omega
 have HN1:=hid hn1;clear hn1;go_wp2_with fail;refine bodyPost_ret (v:=.tuple #[.slice p1 n1 q1,.int .i64 0,.int .i64 0]) (by simp [results,Tryz.results146,go_sem]) rfl ?_;exact ⟨_,rfl,hv1,k1⟩
theorem l02GoodA (s:ByteArray) (w:World) (hs:s.size≤10000000):Calls Tryz.prog 111 #[.string s] w (GoodR w s):=by
 by_cases hg:∃ t,IsTx s t
 ·obtain ⟨t,ht⟩:=hg
  have hI:=isTx_iff.2 ⟨t,ht⟩;have HR:=hid (specParseT t s w ht);have HT:=hid (fun v w2 (hv:Nds w2 v t.enc)=>l02TextA t ht.1 (by have:=ht.2.2;omega) v w2 hv);have hl:=ht.2.2;have HB:=hid ht;have HI:=hid hI;clear ht hI;go_enter Tryz.func111,Tryz.ntmps111;go_wp2_with fail;refine HR.out.mono ?_;rintro e w1 ⟨v1,rfl,hv1,k1⟩;have hn1:Nds w1 v1 t.enc:=hv1.nds (by omega);go_wp2_with fail;refine (HT.out v1 w1 hn1).mono ?_;rintro e w2 ⟨s2,rfl,hs2,k2⟩
  have he:(s2.toList==s.toList)=true:=by rw [beq_bts,decide_eq_true_iff,hs2,HB.out.2.1]
  go_wp2_with fail;refine bodyPost_ret (v:=.tuple #[v1,.bool true]) (by simp [results,Tryz.results111,go_sem]) rfl ?_;exact ⟨v1,by rw [HI.out],k1.trans k2,fun u hu=>by rw [hu.inj HB.out];exact hv1.keeps k2⟩
 ·have hI:isTx s=false:=isTx_not.2 (not_exists.1 hg)
  have HR:=hid (specParseA s w hs);have HN:Hid (∀ t,¬IsTx s t):=hid (not_exists.1 hg);have HI:=hid hI;clear hI hg;go_enter Tryz.func111,Tryz.ntmps111;go_wp2_with fail;refine HR.out.mono ?_;rintro e w1 (⟨j,c,hc,rfl,k1⟩ | ⟨v1,t1,hw1,hl1,h200,rfl,hv1,k1⟩)
  ·have hc':(c==0)=false:=by simpa using hc
   go_wp2_with fail;refine bodyPost_ret (v:=.tuple #[.slice none 0 0,.bool false]) (by simp [results,Tryz.results111,go_sem]) rfl ?_;exact ⟨_,by rw [HI.out],k1,fun u hu=>absurd hu (HN.out u)⟩
  ·have hn1:Nds w1 v1 t1.enc:=hv1.nds (by omega)
   have HT:=hid (l02TextA t1 hw1 (by omega) v1 w1 hn1);go_wp2_with fail;refine HT.out.mono ?_;rintro e w2 ⟨s2,rfl,hs2,k2⟩
   have he:(s2.toList==s.toList)=false:=by
    rw [beq_bts,decide_eq_false_iff_not,hs2];intro e;exact HN.out t1 ⟨hw1,e.symm,hl1⟩
   go_wp2_with fail;refine bodyPost_ret (v:=.tuple #[v1,.bool false]) (by simp [results,Tryz.results111,go_sem]) rfl ?_;exact ⟨v1,by rw [HI.out],k1.trans k2,fun u hu=>absurd hu (HN.out u)⟩
theorem implParseA (s:ByteArray) (w:World) (hs:s.size≤10000000):Calls Tryz.prog 145 #[.string s] w (ParsR w s):=by
 by_cases h200:s.size>200
 ·have hs':(s.size:Int)>200:=by omega
  go_enter Tryz.func145,Tryz.ntmps145;go_wp2_with fail;refine bodyPost_ret (v:=.tuple #[.slice none 0 0,.int .i64 0,.int .i64 3]) (by simp [results,Tryz.results145,go_sem]) rfl ?_;exact Or.inl ⟨0,3,by decide,rfl,Keeps.refl _⟩
 ·have hs':¬((s.size:Int)>200):=by omega
  have h0:=RdAt.new w s 194 (by omega);have HR:=hid ((implReadA s.size).1 _ _ s 0 false h0 hs (by omega));have k0:=(Keeps.refl w).alloc (.cells #[.string s,.int .i64 0,.bool false] 194);clear h0;go_enter Tryz.func145,Tryz.ntmps145;go_wp2_with fail;refine HR.out.mono ?_;rintro e w1 ⟨v1,t1,j1,b1,rfl,hw1,hv1,h1,hj1,hl1,g1⟩;have kw:=k0.grown g1 (fun k hk=>by cases hk;exact Nat.le_refl _);obtain ⟨c0,c1,c2,f1,f2,le,sz⟩:=h1
  obtain ⟨p1,n1,q1,rfl⟩:∃ p n c,v1=.slice p n c:=by obtain ⟨p,c,e,_⟩:=At.of_own hv1;exact ⟨p,_,c,e⟩
  have hn1:n1=t1.enc.length:=by obtain ⟨p,c,e,_⟩:=At.of_own hv1;cases e;rfl
  have HN1:=hid hn1;clear hn1;have HV1:=hid hv1;clear hv1
  cases b1 with
  | true=>
   go_wp2_with fail
   go_quiet (fail)
   go_wp2_with fail;refine bodyPost_ret (v:=.tuple #[.slice none 0 0,.int .i64 j1,.int .i64 6]) (by simp [results,Tryz.results145,go_sem]) rfl ?_;exact Or.inl ⟨j1,6,by decide,rfl,kw.drewN _⟩
  | false=>
   by_cases hlt:j1<s.size
   ·have hlt':decide ((j1:Int)<s.size)=true:=by simp;omega
    go_wp2_with fail
    go_quiet (fail)
    go_wp2_with fail;refine bodyPost_ret (v:=.tuple #[.slice none 0 0,.int .i64 j1,.int .i64 6]) (by simp [results,Tryz.results145,go_sem]) rfl ?_;exact Or.inl ⟨j1,6,by decide,rfl,kw.drewN _⟩
   ·have hlt':decide ((j1:Int)<s.size)=false:=by simp;omega
    by_cases h40:t1.enc.length>40
    ·have hl2:(n1:Int)>40:=by have:=HN1.out;omega
     go_wp2_with fail;refine bodyPost_ret (v:=.tuple #[.slice none 0 0,.int .i64 0,.int .i64 3]) (by simp [results,Tryz.results145,go_sem]) rfl ?_;exact Or.inl ⟨0,3,by decide,rfl,kw⟩
    ·have hl2:¬((n1:Int)>40):=by have:=HN1.out;omega
     go_wp2_with fail;refine bodyPost_ret (v:=.tuple #[.slice p1 n1 q1,.int .i64 0,.int .i64 0]) (by simp [results,Tryz.results145,go_sem]) rfl ?_;exact Or.inr ⟨_,t1,hw1,by omega,by omega,rfl,HV1.out.mono (by simp),kw⟩
def PrsdR (w:World) (e:Ending) (w':World):Prop:=
 (e=.returned (.slice none 0 0)∧Keeps w w')∨(∃ (v:Value) (t:Fm),t.wf∧t.enc.length≤40∧e=.returned v∧OwnN w' w.heap.size v t.enc∧Keeps w w')
theorem parsedA (s:ByteArray) (w:World) (hs:s.size≤10000000):Calls Tryz.prog 110 #[.string s] w (PrsdR w):=by
 have HR:=hid (implParseA s w hs);clear hs;go_enter Tryz.func110,Tryz.ntmps110;go_wp2_with fail;refine HR.out.mono ?_;rintro e w1 (⟨j,c,hc,rfl,k1⟩ | ⟨v1,t1,hw1,hl1,h200,rfl,hv1,k1⟩)
 ·go_wp2_with fail
  go_ret;exact Or.inl ⟨rfl,k1⟩
 ·go_wp2_with fail
  go_ret;exact Or.inr ⟨_,t1,hw1,hl1,rfl,hv1,k1⟩
theorem parsedT (t:Fm) (s:ByteArray) (w:World) (h:IsTx s t):Calls Tryz.prog 110 #[.string s] w (RetN w t.enc):=
 parsed_any t h.1 s w h.2.1 h.small h.2.2
theorem isTextA (s:ByteArray) (w:World) (hs:s.size≤10000000):Calls Tryz.prog 202 #[.string s] w fun e w'=>e=.returned (.bool (isTx s))∧Keeps w w':=by
 by_cases hg:∃ t,IsTx s t
 ·obtain ⟨t,ht⟩:=hg
  have hI:=isTx_iff.2 ⟨t,ht⟩;have HR:=hid (parsedT t s w ht);have HT:=hid (fun v w2 (hv:Nds w2 v t.enc)=>text_any t ht.1 (by have:=ht.2.2;omega) v w2 hv);have hl:=ht.2.2;have hp:=Fm.enc_pos t;have HB:=hid ht;have HI:=hid hI;clear ht hI;go_enter Tryz.func202,Tryz.ntmps202;go_wp2_with fail;refine HR.out.mono ?_;rintro e w1 ⟨v1,rfl,hv1,k1⟩;have hn1:Nds w1 v1 t.enc:=hv1.nds (by omega);have HTv:=hid (HT.out v1 w1 hn1);obtain ⟨b1,o1,n1,c1,rfl,_⟩:=hn1.root;go_wp2_with fail;refine HTv.out.mono ?_;rintro e w2 ⟨s2,rfl,hs2,k2⟩
  have he:(s2.toList==s.toList)=true:=by rw [beq_bts,decide_eq_true_iff,hs2,HB.out.2.1]
  go_wp2_with fail;go_ret;exact ⟨ret_bool (by rw [HI.out]),k1.trans k2⟩
 ·have hI:isTx s=false:=isTx_not.2 (not_exists.1 hg)
  have HR:=hid (parsedA s w hs);have HN:Hid (∀ t,¬IsTx s t):=hid (not_exists.1 hg);have HI:=hid hI;clear hI hg;go_enter Tryz.func202,Tryz.ntmps202;go_wp2_with fail;refine HR.out.mono ?_;rintro e w1 (⟨rfl,k1⟩ | ⟨v1,t1,hw1,hl1,rfl,hv1,k1⟩)
  ·go_wp2_with fail
   go_ret;exact ⟨ret_bool (by rw [HI.out]),k1⟩
  ·have hn1:Nds w1 v1 t1.enc:=hv1.nds (by omega)
   have HTv:=hid (text_any t1 hw1 (by omega) v1 w1 hn1);have hp:=Fm.enc_pos t1;obtain ⟨b1,o1,n1,c1,rfl,_⟩:=hn1.root;go_wp2_with fail;refine HTv.out.mono ?_;rintro e w2 ⟨s2,rfl,hs2,k2⟩
   have he:(s2.toList==s.toList)=false:=by
    rw [beq_bts,decide_eq_false_iff_not,hs2];intro e;exact HN.out t1 ⟨hw1,e.symm,hl1⟩
   go_wp2_with fail;go_ret;exact ⟨ret_bool (by rw [HI.out]),k1.trans k2⟩
def LaidS (g:Nat) (ss:List ByteArray) (w:World):Prop:=∀ i (h:i<ss.length),w.cell? ⟨g,i,none⟩=some (.string ss[i])
theorem LaidS.keeps {g:Nat} {ss:List ByteArray} {w w':World} (h:LaidS g ss w) (k:Keeps w w'):LaidS g ss w':=fun i hi=>k.cell (h i hi)
def texts19:List ByteArray:=[⟨#[112,62,113,62,112]⟩,⟨#[40,112,62,113,62,114,41,62,40,112,62,113,41,62,112,62,114]⟩,⟨#[112,38,113,62,112]⟩,⟨#[112,38,113,62,113]⟩,⟨#[112,62,113,62,112,38,113]⟩,⟨#[112,62,112,124,113]⟩,⟨#[113,62,112,124,113]⟩,⟨#[40,112,62,114,41,62,40,113,62,114,41,62,112,124,113,62,114]⟩,⟨#[70,62,112]⟩,⟨#[126,126,112,62,112]⟩,⟨#[91,93,40,112,62,113,41,62,91,93,112,62,91,93,113]⟩,⟨#[60,62,112,62,126,91,93,126,112]⟩,⟨#[126,91,93,126,112,62,60,62,112]⟩,⟨#[91,93,112,62,112]⟩,⟨#[91,93,112,62,91,93,91,93,112]⟩,⟨#[60,62,112,62,91,93,60,62,112]⟩,⟨#[112,62,91,93,60,62,112]⟩,⟨#[91,93,112,62,60,62,112]⟩,⟨#[91,93,40,91,93,112,62,112,41,62,91,93,112]⟩]
theorem schm_ok:∀ k,k<19→bts (texts19.getD k ⟨#[]⟩)=(schm k).body∧(texts19.getD k ⟨#[]⟩).size≤200∧(schm k).enc.length≤40:=by decide +kernel
theorem schm_wf:∀ k,k<19→(schm k).wf:=by
 intro k h
 have h0:k=0∨k=1∨k=2∨k=3∨k=4∨k=5∨k=6∨k=7∨k=8∨k=9∨k=10∨k=11∨k=12∨k=13∨k=14∨k=15∨k=16∨k=17∨k=18:=by omega
 rcases h0 with rfl | rfl | rfl | rfl | rfl | rfl | rfl | rfl | rfl | rfl | rfl | rfl | rfl | rfl | rfl | rfl | rfl | rfl | rfl<;>simp [schm,schF,Fm.wf]
theorem text19 (k:Nat) (hk:k<19):texts19[k]'hk=texts19.getD k ⟨#[]⟩:=by rw [List.getD_eq_getElem?_getD,List.getElem?_eq_getElem (show k<texts19.length from hk)];rfl
theorem scheme_any (k:Nat) (hk:k<19) (w:World) (hN:LaidS 0 texts19 w):Calls Tryz.prog 77 #[.int .i64 k] w (RetN w (schm k).enc):=by
 obtain ⟨hb,hs,hl⟩:=schm_ok k hk;have HR:=hid (fun w=>parsed_any (schm k) (schm_wf k hk) (texts19.getD k ⟨#[]⟩) w hb hs hl);have hc:=hN k hk;rw [text19 k hk] at hc;clear hb hs hl hN;generalize texts19.getD k ⟨#[]⟩=T at*;generalize (schm k).enc=L at*
 have hk':(k:Int)<19:=by omega
 have hk0:decide ((k:Int)<0)=false:=by simp
 go_enter Tryz.func77,Tryz.ntmps77;go_wp2_with fail;refine (HR.out _).mono ?_;rintro e w2 ⟨v2,rfl,hv2,k2⟩;go_wp2_with fail;go_ret;exact ⟨_,rfl,hv2,k2⟩
theorem isInstance_any (k:Nat) (hk:k<19) (t:Fm) (hl:t.enc.length≤40) (v:Value) (w:World) (hv:Nds w v t.enc) (hN:LaidS 0 texts19 w):Calls Tryz.prog 153 #[.int .i64 k,v] w fun e w'=>e=.returned (.bool (insT k t))∧Keeps w w':=by
 obtain ⟨hb,hs,hl2⟩:=schm_ok k hk;have HS:=hid (scheme_any k hk w hN);have HM:=hid (fun wz (kz:Keeps w wz) u (hu:Nds wz u (schm k).enc)=>match_any (schm k) t (schm_wf k hk) (by omega) (by omega) u v wz hu (hv.keeps kz));have HI:Hid (insT k t=(mtF ((schm k).enc.length+1) [schm k] [t] (fun _=>none)).isSome):=hid rfl;generalize insT k t=R at*;generalize (mtF ((schm k).enc.length+1) [schm k] [t] (fun _=>none)).isSome=R2 at*;obtain rfl:R=R2:=HI.out;obtain ⟨p,n,c,rfl⟩:=hv.shape;clear hv hb hs hN HI;go_enter Tryz.func153,Tryz.ntmps153;go_wp2_with fail;refine HS.out.mono ?_;rintro e w2 ⟨v2,rfl,hv2,k2⟩;go_wp2_with fail;refine (HM.out w2 k2 v2 (hv2.nds (by omega))).mono ?_;rintro e w3 ⟨⟨u,rfl⟩,k3⟩;go_wp2_with fail;go_ret;exact ⟨rfl,k2.trans k3⟩
theorem l13Texts_any (w:World):Calls Tryz.prog 112 #[] w fun e w'=>∃ v,e=.returned v∧Strs w' v texts19∧Keeps w w':=by
 have hT:Strs (w.alloc (.cells (texts19.map Value.string).toArray 9)) (.slice (some ⟨w.heap.size,0,none⟩) 19 19) texts19:=Strs.lit (w:=w) texts19 (by simp [texts19]);have kA:=(Keeps.refl w).alloc (.cells (texts19.map Value.string).toArray 9);go_enter Tryz.func112,Tryz.ntmps112;go_wp2_with fail;go_ret;exact ⟨_,rfl,hT,kA⟩
theorem l13Scheme_any (k:Nat) (hk:k<19) (w:World):Calls Tryz.prog 78 #[.int .i64 k] w (RetN w (schm k).enc):=by
 obtain ⟨hb,hs,hl⟩:=schm_ok k hk;have HR:=hid (fun w=>l02GoodA (texts19.getD k ⟨#[]⟩) w (by omega));have HX:=hid (show IsTx (texts19.getD k ⟨#[]⟩) (schm k) from ⟨schm_wf k hk,hb,hl⟩);have HT:=hid (l13Texts_any w);have hg:=text19 k hk;clear hb hs hl
 have hk':(k:Int)<19:=by omega
 go_enter Tryz.func78,Tryz.ntmps78;go_wp2_with fail;refine HT.out.mono ?_;rintro e w1 ⟨v1,rfl,hv1,k1⟩;obtain ⟨p,c,rfl,_⟩:=hv1.shape;obtain ⟨b,off,e,hc⟩:=hv1.get k hk
 cases e
 rw [hg] at hc;clear hg hv1;rw [show texts19.length=19 from rfl];generalize texts19.getD k ⟨#[]⟩=T at*;go_wp2_with fail;refine (HR.out _).mono ?_;rintro e w2 ⟨v2,rfl,k2,ho⟩;have hv2:=ho _ HX.out
 obtain ⟨p2,n2,c2,rfl⟩:∃ p n c,v2=.slice p n c:=by obtain ⟨p,c,e,_⟩:=At.of_own hv2;exact ⟨p,_,c,e⟩
 go_wp2_with fail;go_ret;exact ⟨_,rfl,hv2.mono k1.size,k1.trans k2⟩
theorem l13Instance_any (k:Nat) (hk:k<19) (t:Fm) (hl:t.enc.length≤40) (v:Value) (w:World) (hv:Nds w v t.enc):Calls Tryz.prog 123 #[.int .i64 k,v] w fun e w'=>e=.returned (.bool (insT k t))∧Keeps w w':=by
 obtain ⟨hb,hs,hl2⟩:=schm_ok k hk;have HS:=hid (l13Scheme_any k hk w);have HM:=hid (fun wz (kz:Keeps w wz) u (hu:Nds wz u (schm k).enc)=>l03Match_any (schm k) t (schm_wf k hk) (by omega) (by omega) u v wz hu (hv.keeps kz));have HI:Hid (insT k t=(mtF ((schm k).enc.length+1) [schm k] [t] (fun _=>none)).isSome):=hid rfl;generalize insT k t=R at*;generalize (mtF ((schm k).enc.length+1) [schm k] [t] (fun _=>none)).isSome=R2 at*;obtain rfl:R=R2:=HI.out;obtain ⟨p,n,c,rfl⟩:=hv.shape;clear hv hb hs HI;go_enter Tryz.func123,Tryz.ntmps123;go_wp2_with fail;refine HS.out.mono ?_;rintro e w2 ⟨v2,rfl,hv2,k2⟩;go_wp2_with fail;refine (HM.out w2 k2 v2 (hv2.nds (by omega))).mono ?_;rintro e w3 ⟨⟨u,rfl⟩,k3⟩;go_wp2_with fail;go_ret;exact ⟨rfl,k2.trans k3⟩
end Go.Proofs.YtbccmdfdclomiaaGreatDoor
