import Derived.Test.YtbccmdfdclomiaaGreatDoorHV6
/- own -/
namespace Go.Proofs.YtbccmdfdclomiaaGreatDoor
set_option maxRecDepth 20000
set_option maxHeartbeats 2000000
section
open Go.RowKit
def Left (w:World) (v:Value) (G:List Fm):Prop:=∃ ss,Strs w v ss∧Txts ss G
theorem Left.keeps {w w':World} {v:Value} {G:List Fm} (h:Left w v G) (k:Keeps w w'):Left w' v G:=by
 obtain ⟨ss,h1,h2⟩:=h;exact ⟨ss,h1.keeps k,h2⟩
theorem Left.nil (w:World):Left w (.slice none 0 0) []:=⟨[],(OwnS.nil w 0).strs (by simp),rfl⟩
theorem Left.shape {w:World} {v:Value} {G:List Fm} (h:Left w v G):∃ p n c,v=.slice p n c:=by
 obtain ⟨ss,h1,_⟩:=h;obtain ⟨p,c,e,_⟩:=h1.at;exact ⟨p,_,c,e⟩
theorem Left.lit1 (w:World) {s:ByteArray} {t:Fm} (h:bts s=t.body):Left (w.alloc (.cells #[.string s] 9)) (.slice (some ⟨w.heap.size,0,none⟩) 1 1) [t]:=⟨[s],Strs.lit1 w s,by simp [Txts,h]⟩
theorem Left.lit1N {N:Nat} (w:World) (hN:N=w.heap.size) {s:ByteArray} {t:Fm} (h:bts s=t.body):Left (w.alloc (.cells #[.string s] 9)) (.slice (some ⟨N,0,none⟩) 1 1) [t]:=by
 subst hN;exact Left.lit1 w h
theorem Left.lit2 (w:World) {s s':ByteArray} {t t':Fm} (h:bts s=t.body) (h':bts s'=t'.body):Left (w.alloc (.cells #[.string s,.string s'] 9)) (.slice (some ⟨w.heap.size,0,none⟩) 2 2) [t,t']:=⟨[s,s'],Strs.lit2 w s s',by simp [Txts,h,h']⟩
theorem OwnS.left {w:World} {B:Nat} {v:Value} {ss:List ByteArray} {G:List Fm} (h:OwnS w B v ss) (k:Txts ss G) (hl:G.length≤2147483648):Left w v G:=⟨ss,h.strs (by rw [k.length];exact hl),k⟩
theorem Left.turns {m:Nat} {w w':World} {v:Value} {G:List Fm} (h:Left w v G) (k:Turns m w w'):Left w' v G:=by
 obtain ⟨ss,h1,h2⟩:=h;exact ⟨ss,h1.turns k,h2⟩
def GoalL (w:World) (v:Value) (gs:List (List Fm×Fm)):Prop:=SlC 2 (fun w f g=>∃ s,f 1=.string s∧Left w (f 0) g.1∧bts s=g.2.body) w v gs
theorem GoalL.keeps {w w':World} {v:Value} {gs:List (List Fm×Fm)} (h:GoalL w v gs) (k:Keeps w w'):GoalL w' v gs:=
 SlC.keeps (R:=fun w f (g:List Fm×Fm)=>∃ s,f 1=.string s∧Left w (f 0) g.1∧bts s=g.2.body) (fun _ _ _ _ k ⟨s,h1,h2,h3⟩=>⟨s,h1,h2.keeps k,h3⟩) h k
theorem GoalL.turns {m:Nat} {w w':World} {v:Value} {gs:List (List Fm×Fm)} (h:GoalL w v gs) (k:Turns m w w'):GoalL w' v gs:=
 SlC.turns (R:=fun w f (g:List Fm×Fm)=>∃ s,f 1=.string s∧Left w (f 0) g.1∧bts s=g.2.body) (fun _ _ _ _ k ⟨s,h1,h2,h3⟩=>⟨s,h1,h2.turns k,h3⟩) h k
theorem GoalL.shape {w:World} {v:Value} {gs:List (List Fm×Fm)} (h:GoalL w v gs):∃ p cap,v=.slice p gs.length cap∧gs.length≤cap∧cap≤maxLen∧gs.length≤2147483648:=by
 obtain ⟨p,cap,hv,h1,h2,h3,_⟩:=h;exact ⟨p,cap,hv,h1,h2,h3⟩
theorem GoalL.get {w:World} {p:Option Addr} {n cap:Nat} {gs:List (List Fm×Fm)} (h:GoalL w (.slice p n cap) gs) (i:Nat) (hi:i<gs.length):
  ∃ b off q m c s,p=some ⟨b,off,none⟩∧w.cell? ⟨b,off+i*2,none⟩=some (.slice q m c)∧w.cell? ⟨b,off+i*2+1,none⟩=some (.string s)∧Left w (.slice q m c) gs[i].1∧bts s=gs[i].2.body:=by
 obtain ⟨p',cap',hv,h1,h2,h3,h4⟩:=h
 cases hv
 obtain ⟨b,off,f,hp,hc,s,g1,g2,g3⟩:=h4 i hi;obtain ⟨q,m,c,e⟩:=g2.shape;refine ⟨b,off,q,m,c,s,hp,?_,?_,by rw [←e];exact g2,g3⟩
 ·rw [←e];exact hc 0 (by omega)
 ·rw [←g1];exact hc 1 (by omega)
theorem GoalL.lit1 {w:World} {v:Value} {s:ByteArray} {G:List Fm} {c:Fm} (h:Left w v G) (hs:bts s=c.body):
  GoalL (w.alloc (.cells #[v,.string s] 177)) (.slice (some ⟨w.heap.size,0,none⟩) 1 1) [(G,c)]:=by
 refine ⟨_,1,rfl,by simp,by simp [maxLen],by simp,fun i hi=>?_⟩
 obtain rfl:i=0:=by simp at hi;omega
 refine ⟨w.heap.size,0,fun c=>if c=0 then v else .string s,rfl,fun c hc=>?_,s,rfl,h.keeps ((Keeps.refl w).alloc _),hs⟩;rw [cell_of_row _ w.heap.size _ #[v,.string s] 177 (0,0) (heap_alloc_new w _)]
 have:c=0∨c=1:=by omega
 rcases this with rfl | rfl<;>simp
theorem GoalL.lit2 {w:World} {v v':Value} {s s':ByteArray} {G G':List Fm} {c c':Fm} (h:Left w v G) (hs:bts s=c.body) (h':Left w v' G') (hs':bts s'=c'.body):
  GoalL (w.alloc (.cells #[v,.string s,v',.string s'] 177)) (.slice (some ⟨w.heap.size,0,none⟩) 2 2) [(G,c),(G',c')]:=by
 refine ⟨_,2,rfl,by simp,by simp [maxLen],by simp,fun i hi=>?_⟩
 have hi2:i=0∨i=1:=by simp at hi;omega
 have k:=(Keeps.refl w).alloc (.cells #[v,.string s,v',.string s'] 177)
 rcases hi2 with rfl | rfl
 ·refine ⟨w.heap.size,0,fun c=>if c=0 then v else .string s,rfl,fun c hc=>?_,s,rfl,h.keeps k,hs⟩
  rw [cell_of_row _ w.heap.size _ #[v,.string s,v',.string s'] 177 (0,0) (heap_alloc_new w _)]
  have:c=0∨c=1:=by omega
  rcases this with rfl | rfl<;>simp
 ·refine ⟨w.heap.size,0,fun c=>if c=0 then v' else .string s',rfl,fun c hc=>?_,s',rfl,h'.keeps k,hs'⟩
  rw [cell_of_row _ w.heap.size _ #[v,.string s,v',.string s'] 177 (0,0) (heap_alloc_new w _)]
  have:c=0∨c=1:=by omega
  rcases this with rfl | rfl<;>simp
theorem indexFuncSI (Inv:World→Prop) (pr:ByteArray→Bool) (f:FuncId) (cp:Array Value) (a:List ByteArray) (v:Value) (w:World) (hv:∀ w1,Inv w1→Strs w1 v a) (h0:Inv w) (hcf:Enters f)
  (hf:∀ x w1,x∈a→Inv w1→Calls Tryz.prog f (#[.string x]++cp) w1 fun e w2=>e=.returned (.bool (pr x))∧Inv w2):
  Calls Tryz.prog 263 #[v,.func (.func f) #[] cp] w fun e w'=>e=.returned (.int .i64 (idxOf pr a 0))∧Inv w':=by
 obtain ⟨p,cap,rfl,hle,hmx,_,hlen⟩:=(hv w h0).at;unfold maxLen at hmx;have HV:=hid hv;clear hv;have HF:=hid hf;clear hf;have H0:=hid h0;clear h0
 have hcf':∀ args w,(callFunc f args).run Tryz.prog w=.ok (.enter f args) w:=hcf
 clear hcf;go_enter Tryz.func263,Tryz.ntmps263;go_wp2
 go_loopw [4,8] (fun r i' wr=>∃ k:Nat,k≤a.length∧idxOf pr a 0=idxOf pr (a.drop k) k∧Hid (Inv wr)∧i'=.int .i64 k∧r=.int .i64 0) (fun _ i _=>a.length-(intOf i).toNat)
 case atStart=>exact ⟨0,by omega,by simp,H0,rfl,rfl⟩
 case round=>
  obtain ⟨k,hk,hs,kw,rfl,rfl⟩:=hrel;have Hs:=hid hs;clear hs
  by_cases hlt:k<a.length
  ·obtain ⟨b,off,rfl,h1⟩:=(HV.out wr kw.out).get k hlt
   have hd:=hid (idxOf_drop pr a k hlt)
   cases hp:pr a[k]
   all_goals
    have Hp:=hid hp;clear hp
    go_wp2_with ((with_reducible refine (HF.out a[k] wr (List.getElem_mem hlt) kw.out).mono ?_);rintro e w2 ⟨rfl,k2⟩;replace k2:=hid k2;rw [Hp.out])
   ·go_roundw
    case rel=>exact ⟨k+1,by omega,by rw [Hs.out,hd.out,Hp.out];rfl,k2,by go_num,rfl⟩
    case measure=>simp [intOf];omega
   ·go_ret
    exact ⟨ret_int (by rw [Hs.out,hd.out,Hp.out];rfl),k2.out⟩
  ·go_wp2
   go_ret;exact ⟨ret_int (by rw [Hs.out,idxOf_end _ _ _ (by omega)]),kw.out⟩
theorem containsFuncSI (Inv:World→Prop) (pr:ByteArray→Bool) (f:FuncId) (cp:Array Value) (a:List ByteArray) (v:Value) (w:World) (hv:∀ w1,Inv w1→Strs w1 v a) (h0:Inv w) (hcf:Enters f)
  (hf:∀ x w1,x∈a→Inv w1→Calls Tryz.prog f (#[.string x]++cp) w1 fun e w2=>e=.returned (.bool (pr x))∧Inv w2):
  Calls Tryz.prog 244 #[v,.func (.func f) #[] cp] w fun e w'=>e=.returned (.bool (a.any pr))∧Inv w':=by
 have H:=hid (indexFuncSI Inv pr f cp a v w hv h0 hcf hf);clear hv hf hcf h0;have he:=hid (idxOf_any pr a 0);go_enter Tryz.func244,Tryz.ntmps244
 go_wp2_with (go_at_call 263;refine H.out.mono ?_;rintro e w2 ⟨rfl,k2⟩;replace k2:=hid k2)
 go_ret;exact ⟨ret_bool he.out,k2.out⟩
theorem indexFuncG (Inv:World→Prop) (pr:List Fm×Fm→Bool) (f:FuncId) (cp:Array Value) (a:List (List Fm×Fm)) (v:Value) (w:World) (hv:∀ w1,Inv w1→GoalL w1 v a) (h0:Inv w) (hcf:Enters f)
  (hf:∀ g,g∈a→∀ q m c s w1,Inv w1→Left w1 (.slice q m c) g.1→bts s=g.2.body→Calls Tryz.prog f (#[.agg #[.slice q m c,.string s]]++cp) w1 fun e w2=>e=.returned (.bool (pr g))∧Inv w2):
  Calls Tryz.prog 261 #[v,.func (.func f) #[] cp] w fun e w'=>e=.returned (.int .i64 (idxOf pr a 0))∧Inv w':=by
 obtain ⟨p,cap,rfl,hle,hmx,hlen⟩:=(hv w h0).shape;unfold maxLen at hmx;have HV:=hid hv;clear hv;have HF:=hid hf;clear hf;have H0:=hid h0;clear h0
 have hcf':∀ args w,(callFunc f args).run Tryz.prog w=.ok (.enter f args) w:=hcf
 clear hcf;go_enter Tryz.func261,Tryz.ntmps261;go_wp2
 go_loopw [4,8] (fun r i' wr=>∃ k:Nat,k≤a.length∧idxOf pr a 0=idxOf pr (a.drop k) k∧Hid (Inv wr)∧i'=.int .i64 k∧r=.int .i64 0) (fun _ i _=>a.length-(intOf i).toNat)
 case atStart=>exact ⟨0,by omega,by simp,H0,rfl,rfl⟩
 case round=>
  obtain ⟨k,hk,hs,kw,rfl,rfl⟩:=hrel;have Hs:=hid hs;clear hs
  by_cases hlt:k<a.length
  ·obtain ⟨b,off,q,m,c,s,rfl,h1,h2,h3,h4⟩:=(HV.out wr kw.out).get k hlt
   have hd:=hid (idxOf_drop pr a k hlt);have HC:=hid (HF.out a[k] (List.getElem_mem hlt) q m c s wr kw.out h3 h4);clear h3 h4
   cases hp:pr a[k]
   all_goals
    have Hp:=hid hp;clear hp
    go_wp2_with ((with_reducible refine HC.out.mono ?_);rintro e w2 ⟨rfl,k2⟩;replace k2:=hid k2;rw [Hp.out])
   ·go_roundw
    case rel=>exact ⟨k+1,by omega,by rw [Hs.out,hd.out,Hp.out];rfl,k2,by go_num,rfl⟩
    case measure=>simp [intOf];omega
   ·go_ret
    exact ⟨ret_int (by rw [Hs.out,hd.out,Hp.out];rfl),k2.out⟩
  ·go_wp2
   go_ret;exact ⟨ret_int (by rw [Hs.out,idxOf_end _ _ _ (by omega)]),kw.out⟩
theorem containsFuncG (Inv:World→Prop) (pr:List Fm×Fm→Bool) (f:FuncId) (cp:Array Value) (a:List (List Fm×Fm)) (v:Value) (w:World) (hv:∀ w1,Inv w1→GoalL w1 v a) (h0:Inv w) (hcf:Enters f)
  (hf:∀ g,g∈a→∀ q m c s w1,Inv w1→Left w1 (.slice q m c) g.1→bts s=g.2.body→Calls Tryz.prog f (#[.agg #[.slice q m c,.string s]]++cp) w1 fun e w2=>e=.returned (.bool (pr g))∧Inv w2):
  Calls Tryz.prog 240 #[v,.func (.func f) #[] cp] w fun e w'=>e=.returned (.bool (a.any pr))∧Inv w':=by
 have H:=hid (indexFuncG Inv pr f cp a v w hv h0 hcf hf);clear hv hf hcf h0;have he:=hid (idxOf_any pr a 0);go_enter Tryz.func240,Tryz.ntmps240
 go_wp2_with (go_at_call 261;refine H.out.mono ?_;rintro e w2 ⟨rfl,k2⟩;replace k2:=hid k2)
 go_ret;exact ⟨ret_bool he.out,k2.out⟩
theorem enters_drop_1:Enters 277:=fun _ _=>by kernel_rfl
theorem drop_any (ss:List ByteArray) (t:ByteArray) (v:Value) (w:World) (hv:Strs w v ss) (h0:0<ss.length) (hl:ss.length≤1000000000):
  Calls Tryz.prog 262 #[v,.string t] w fun e w'=>∃ v',e=.returned v'∧OwnS w' w.heap.size v' (ss.filter fun s=>!(s.toList==t.toList))∧Keeps w w':=by
 have kA:=(Keeps.refl w).alloc (.cells #[.string t] 9)
 have hb:(w.alloc (.cells #[.string t] 9)).cell? ⟨w.heap.size,0,none⟩=some (.string t):=by simp
 have hva:=hv.keeps kA;obtain ⟨p,cap,rfl,hle,hmx,hat,_⟩:=hva.at;obtain ⟨b,off,rfl,_⟩:=hat 0 (by simpa [strCells] using h0)
 have hc:∀ j,j<ss.length→(w.alloc (.cells #[.string t] 9)).cell? ⟨b,off+j,none⟩=some (.string (ss.getD j ByteArray.empty)):=by
  intro j hj;obtain ⟨b',off',hp,hc⟩:=hat j (by simpa [strCells] using hj)
  cases hp
  rw [hc];simp [strCells,List.getD_eq_getElem?_getD,hj]
 have hC:=Tryz.slices_Clone_string b off ss.length cap ss (w.alloc (.cells #[.string t] 9)) (Nat.le_refl _) (by omega) hc;rw [List.take_length] at hC;have HC:=hid hC;clear hC hc hat;have HB:=hid hb;clear hb;clear hva;go_enter Tryz.func262,Tryz.ntmps262;go_wp2_with fail;refine HC.out.mono ?_;rintro e w1 ⟨v1,rfl,hv1,hn1,k1⟩;have hown:OwnS w1 (w.alloc (.cells #[.string t] 9)).heap.size v1 ss:=hv1
 obtain ⟨g,c1,rfl⟩:∃ g c,v1=.slice (some ⟨g,0,none⟩) ss.length c:=by
  rcases hown.2 with ⟨e,_⟩ | ⟨g,c,_,e,_⟩
  ·exact absurd e hn1
  ·exact ⟨g,c,e⟩
 have HD:=hid (deleteFuncS (fun s=>s.toList==t.toList) 277 #[.pointer (some ⟨w.heap.size,0,none⟩)] ss g c1 (w.alloc (.cells #[.string t] 9)) w1 hown k1 (by omega) enters_drop_1 (fun x w2 k2=>drop_1_any x t _ w2 (Keeps.cell k2 HB.out)));clear hown hv1 hn1;go_wp2_with fail;refine HD.out.mono ?_;rintro e w2 ⟨v2,rfl,hv2,k2⟩;go_wp2_with fail;go_ret;exact ⟨_,rfl,hv2.mono (by simp),kA.trans k2⟩
def OLeft (w:World) (B:Nat) (v:Value) (G:List Fm):Prop:=∃ ss,OwnS w B v ss∧Txts ss G∧G.length≤2147483648
theorem OLeft.left {w:World} {B:Nat} {v:Value} {G:List Fm} (h:OLeft w B v G):Left w v G:=by
 obtain ⟨ss,h1,h2,h3⟩:=h;exact h1.left h2 h3
theorem OLeft.setBelow {w:World} {B:Nat} {v:Value} {G:List Fm} (h:OLeft w B v G) {g:Nat} (hg:g<B) (o:Nat) (u:Value):OLeft (w.setCell ⟨g,o,none⟩ u) B v G:=by
 obtain ⟨ss,h1,h2,h3⟩:=h;refine ⟨ss,World.ownsRow.kept h1 (grown_set g o u) ?_,h2,h3⟩
 cases hb:v.ownBlock with
 | none=>exact .inl rfl
 | some k=>exact .inr (fun e=>by cases e;have:=(OwnS.len h1 g hb).1;omega)
theorem put_fm (G H:List Fm) (v u:Value) (w:World) (hv:Left w v G) (hu:Left w u H) (hG:OkL G) (hH:OkL H) (hl:wts G+wts H≤1000000000):
  Calls Tryz.prog 159 #[v,u] w fun e w'=>∃ v' R,e=.returned v'∧OLeft w' w.heap.size v' R∧(∀ a,a∈R↔a∈G∨a∈H)∧wts R≤wts G+wts H∧Keeps w w':=by
 obtain ⟨ss,h1,h2⟩:=hv;obtain ⟨tt,h3,h4⟩:=hu;have hl1:=len_le_wts G;have hl2:=len_le_wts H;obtain ⟨R,hR,hm,hw,hln⟩:=put_txts h2 h4 (fun a ha=>(hG a ha).1) (fun a ha=>(hH a ha).1);refine (put_any ss tt v u w h1 h3 (by rw [h2.length,h4.length];omega)).mono ?_;rintro e w' ⟨v',rfl,ho,k⟩;exact ⟨v',R,rfl,⟨_,ho,hR,by omega⟩,hm,hw,k⟩
theorem drop_fm (G:List Fm) (t:Fm) (x:ByteArray) (hx:bts x=t.body) (hm:t∈G) (v:Value) (w:World) (hv:Left w v G) (hG:OkL G) (hl:wts G≤1000000000):
  Calls Tryz.prog 262 #[v,.string x] w fun e w'=>∃ v',e=.returned v'∧OLeft w' w.heap.size v' (G.filter fun a=>!decide (a=t))∧Keeps w w':=by
 obtain ⟨ss,h1,h2⟩:=hv;have hl1:=len_le_wts G;have hp:0<G.length:=List.length_pos_of_mem hm;refine (drop_any ss x v w h1 (by rw [h2.length];exact hp) (by rw [h2.length];omega)).mono ?_;rintro e w' ⟨v',rfl,ho,k⟩;have:=drop_txts hx (hG t hm).1 h2 (fun a ha=>(hG a ha).1);exact ⟨v',rfl,⟨_,ho,this,by have:=List.length_filter_le (fun a=>!decide (a=t)) G;omega⟩,k⟩
theorem proving_any (p:Option Addr) (n c:Nat) (s t:ByteArray) (w:World):
  Calls Tryz.prog 225 #[.agg #[.slice p n c,.string s],.string t] w fun e w'=>e=.returned (.agg #[.slice p n c,.string t])∧Keeps w w':=by
 have kA:=(((Keeps.refl w).alloc (.cells #[.slice p n c,.string s] 177)).alloc (.cells #[.slice none 0 0,.string ⟨#[]⟩] 177))
 have pa:((w.alloc (.cells #[.slice p n c,.string s] 177)).alloc (.cells #[.slice none 0 0,.string ⟨#[]⟩] 177)).cell? ⟨w.heap.size,0,none⟩=some (.slice p n c):=by rw [World.cell?_alloc_lt (h:=by simp)];simp
 go_enter Tryz.func225,Tryz.ntmps225;go_wp2;refine bodyPost_ret (v:=.agg #[.slice p n c,.string t]) (by simp [results,Tryz.results225,go_sem]) rfl ?_;exact ⟨rfl,(((Keeps.refl w).alloc _).alloc _)⟩
theorem with_any (G H:List Fm) (p:Option Addr) (n c:Nat) (s:ByteArray) (u:Value) (w:World) (hv:Left w (.slice p n c) G) (hu:Left w u H) (hG:OkL G) (hH:OkL H) (hl:wts G+wts H≤1000000000):
  Calls Tryz.prog 226 #[.agg #[.slice p n c,.string s],u] w fun e w'=>∃ p' n' c' R,e=.returned (.agg #[.slice p' n' c',.string s])∧Left w' (.slice p' n' c') R∧(∀ a,a∈R↔a∈G∨a∈H)∧wts R≤wts G+wts H∧Keeps w w':=by
 obtain ⟨p2,n2,c2,rfl⟩:=hu.shape;have kA:=(((Keeps.refl w).alloc (.cells #[.slice p n c,.string s] 177)).alloc (.cells #[.slice none 0 0,.string ⟨#[]⟩] 177)).drew
 have pa:((w.alloc (.cells #[.slice p n c,.string s] 177)).alloc (.cells #[.slice none 0 0,.string ⟨#[]⟩] 177)).drew.cell? ⟨w.heap.size,0,none⟩=some (.slice p n c):=by show (World.alloc _ _).cell? _=_;rw [World.cell?_alloc_lt (h:=by simp)];simp
 have pb:((w.alloc (.cells #[.slice p n c,.string s] 177)).alloc (.cells #[.slice none 0 0,.string ⟨#[]⟩] 177)).drew.cell? ⟨w.heap.size,1,none⟩=some (.string s):=by show (World.alloc _ _).cell? _=_;rw [World.cell?_alloc_lt (h:=by simp)];simp
 have HP:=hid (put_fm G H _ _ _ (hv.keeps kA) (hu.keeps kA) hG hH hl);clear hv hu hG hH hl;go_enter Tryz.func226,Tryz.ntmps226;go_wp2_with fail
 go_region_held3 (fun w'=>w'.cell? ⟨w.heap.size,0,none⟩=some (.slice p n c)∧w'.cell? ⟨w.heap.size,1,none⟩=some (.string s)) (first | exact ⟨pa,pb⟩ | exact ⟨qa,qb⟩ | (constructor<;>(rw [World.cell?_setCell_far _ _ _ _ (by simp),World.cell?_setCell_far _ _ _ _ (by simp)];first | exact qa | exact qb))) (first | (go_at_call 159;refine HP.out.mono ?_;rintro e w2 ⟨v2,R,rfl,hR,hm,hwt,k2⟩;have qa:=k2.cell pa;have qb:=k2.cell pb;obtain ⟨p4,n4,q4,rfl⟩:=hR.left.shape;obtain ⟨hc3,hf3⟩:=k2.both))
 go_wp2;refine bodyPost_ret (v:=.agg #[.slice p4 n4 q4,.string s]) (by simp [results,Tryz.results226,go_sem,hc3]) rfl ?_;exact ⟨p4,n4,q4,R,rfl,((hR.setBelow (by simp) _ _).setBelow (by simp) _ _).left,hm,hwt,((kA.trans k2).setCell (by simp) _).setCell (by simp) _⟩
theorem instead_any (G T:List Fm) (t:Fm) (x:ByteArray) (hx:bts x=t.body) (hm:t∈G) (p:Option Addr) (n c:Nat) (s:ByteArray) (u:Value) (w:World) (hv:Left w (.slice p n c) G) (hu:Left w u T) (hG:OkL G) (hT:OkL T) (hl:wts G+wts T≤1000000000):
  Calls Tryz.prog 242 #[.agg #[.slice p n c,.string s],.string x,u] w fun e w'=>∃ p' n' c' R,e=.returned (.agg #[.slice p' n' c',.string s])∧Left w' (.slice p' n' c') R∧(∀ a,a∈R↔a∈T∨a∈G.filter (fun a=>!decide (a=t)))∧wts R+wt t≤wts G+wts T∧Keeps w w':=by
 obtain ⟨p2,n2,c2,rfl⟩:=hu.shape;have kA:=(((Keeps.refl w).alloc (.cells #[.slice p n c,.string s] 177)).alloc (.cells #[.slice none 0 0,.string ⟨#[]⟩] 177)).drew
 have pa:((w.alloc (.cells #[.slice p n c,.string s] 177)).alloc (.cells #[.slice none 0 0,.string ⟨#[]⟩] 177)).drew.cell? ⟨w.heap.size,0,none⟩=some (.slice p n c):=by show (World.alloc _ _).cell? _=_;rw [World.cell?_alloc_lt (h:=by simp)];simp
 have pb:((w.alloc (.cells #[.slice p n c,.string s] 177)).alloc (.cells #[.slice none 0 0,.string ⟨#[]⟩] 177)).drew.cell? ⟨w.heap.size,1,none⟩=some (.string s):=by show (World.alloc _ _).cell? _=_;rw [World.cell?_alloc_lt (h:=by simp)];simp
 have hwt:=wts_without hm;have HD:=hid (drop_fm G t x hx hm _ _ (hv.keeps kA) hG (by omega));have HP:=hid (fun v2 w2 (k:Keeps w w2) (h:Left w2 v2 (G.filter fun a=>!decide (a=t)))=>put_fm _ T v2 _ w2 h (hu.keeps k) (fun a ha=>hG a (mem_without.1 ha).1) hT (by omega));have HW:=hid hwt;clear hv hu hG hT hl hwt hx hm;go_enter Tryz.func242,Tryz.ntmps242;go_wp2_with fail
 go_region_held3 (fun w'=>w'.cell? ⟨w.heap.size,0,none⟩=some (.slice p n c)∧w'.cell? ⟨w.heap.size,1,none⟩=some (.string s)) (first | exact ⟨pa,pb⟩ | exact ⟨qa,qb⟩ | exact ⟨ra,rb⟩ | (constructor<;>(rw [World.cell?_setCell_far _ _ _ _ (by simp),World.cell?_setCell_far _ _ _ _ (by simp)];first | exact ra | exact rb))) (first
  | (go_at_call 262;refine HD.out.mono ?_;rintro e w2 ⟨v2,rfl,hv2,k2⟩;have qa:=k2.cell pa;have qb:=k2.cell pb;obtain ⟨p4,n4,q4,rfl⟩:=hv2.left.shape)
  | (go_at_call 159;refine (HP.out _ w2 (kA.trans k2) hv2.left).mono ?_;rintro e w3 ⟨v3,R,rfl,hR,hmem,hwR,k3⟩;have ra:=k3.cell qa;have rb:=k3.cell qb;obtain ⟨p5,n5,q5,rfl⟩:=hR.left.shape;obtain ⟨hc3,hf3⟩:=(k2.trans k3).both))
 have hs2:=k2.size;go_wp2;refine bodyPost_ret (v:=.agg #[.slice p5 n5 q5,.string s]) (by simp [results,Tryz.results242,go_sem,hc3]) rfl ?_
 have hlt:w.heap.size+1<w2.heap.size:=by have:=hs2;simp at this;omega
 exact ⟨p5,n5,q5,R,rfl,((hR.setBelow hlt _ _).setBelow hlt _ _).left,fun a=>(hmem a).trans or_comm,by have:=HW.out;omega,((kA.trans (k2.trans k3)).setCell (by simp) _).setCell (by simp) _⟩
open Classical in
noncomputable def sqB (G:List Fm) (c:Fm):Bool:=decide (Sq G c)
theorem sqB_iff {G:List Fm} {c:Fm}:sqB G c=true↔Sq G c:=by unfold sqB;exact @decide_eq_true_iff _ (Classical.propDecidable _)
theorem sqB_true {G:List Fm} {c:Fm} (h:Sq G c):sqB G c=true:=sqB_iff.2 h
theorem sqB_false {G:List Fm} {c:Fm} (h:¬Sq G c):sqB G c=false:=by
 cases hb:sqB G c with
 | false=>rfl
 | true=>exact absurd (sqB_iff.1 hb) h
theorem sqB_congr {G H:List Fm} {c d:Fm} (h:Sq G c↔Sq H d):sqB G c=sqB H d:=by
 by_cases hs:Sq G c
 ·rw [sqB_true hs,sqB_true (h.1 hs)]
 ·rw [sqB_false hs,sqB_false (fun k=>hs (h.2 k))]
end
section
open Go.RowKit Fm
def Prem (G:List Fm) (c:Fm) (gs:List (List Fm×Fm)):Prop:=(∀ g∈gs,OkL g.1∧OkF g.2∧wts g.1+wt g.2<wts G+wt c)∧(Sq G c↔∀ g∈gs,Sq g.1 g.2)
def Left4 (G:List Fm) (t:Fm):Prop:=t=fls∨(∃ p,t=var p)∨(∃ p b,t=imp (var p) b∧var p∉G)∨(∃ x y b,t=imp (imp x y) b)
theorem OkF.and {x y:Fm} (h:OkF (and x y)):OkF x∧OkF y:=by obtain ⟨h1,h2⟩:=h;simp [plain] at h2;exact ⟨⟨h1.1,h2.1⟩,⟨h1.2,h2.2⟩⟩
theorem OkF.or {x y:Fm} (h:OkF (or x y)):OkF x∧OkF y:=by obtain ⟨h1,h2⟩:=h;simp [plain] at h2;exact ⟨⟨h1.1,h2.1⟩,⟨h1.2,h2.2⟩⟩
theorem OkF.imp {x y:Fm} (h:OkF (imp x y)):OkF x∧OkF y:=by obtain ⟨h1,h2⟩:=h;simp [plain] at h2;exact ⟨⟨h1.1,h2.1⟩,⟨h1.2,h2.2⟩⟩
theorem OkF.mkImp {x y:Fm} (h:OkF x) (k:OkF y):OkF (Fm.imp x y):=⟨⟨h.1,k.1⟩,by simp [plain,h.2,k.2]⟩
theorem okL_one {x:Fm} (h:OkF x):OkL [x]:=fun a ha=>by rw [List.mem_singleton.1 ha];exact h
theorem okL_two {x y:Fm} (h:OkF x) (k:OkF y):OkL [x,y]:=fun a ha=>by
 rcases List.mem_cons.1 ha with rfl | ha
 ·exact h
 ·rw [List.mem_singleton.1 ha];exact k
theorem okL_nil:OkL []:=fun a ha=>by cases ha
section
variable {G T R:List Fm} {c t:Fm} (hG:OkL G) (hc:OkF c) (hm:t∈G) (hT:OkL T) (hR:∀ a,a∈R↔a∈T∨a∈G.filter (fun a=>!decide (a=t))) (hw:wts R+wt t≤wts G+wts T)
include hm in
theorem mem_split:∀ a,a∈G↔a=t∨a∈G.filter (fun a=>!decide (a=t)):=(instead_mem (T:=[]) (R:=G.filter fun a=>!decide (a=t)) hm (fun a=>by simp)).1
include hG hT hR in
theorem okL_instead:OkL R:=fun a ha=>((hR a).1 ha).elim (hT a) fun h=>hG a (mem_without.1 h).1
include hG hc hT hR hw in
theorem prem_one (hlt:wts T<wt t) (hs:Sq G c↔Sq R c):Prem G c [(R,c)]:=by
 refine ⟨fun g hg=>?_,by simpa using hs⟩;rw [List.mem_singleton.1 hg];exact ⟨okL_instead hG hT hR,hc,by simp only;omega⟩
include hG hc hm hw in
theorem prem_fls {b:Fm} (ht:t=imp fls b) (hT0:T=[]) (hR:∀ a,a∈R↔a∈T∨a∈G.filter (fun a=>!decide (a=t))):Prem G c [(R,c)]:=by
 subst hT0
 have hlt:wts []<wt t:=by have:=wt_ge t;simp only [wts];omega
 refine prem_one hG hc okL_nil hR hw hlt ?_;rw [sq_drop_imp (x:=fls) (y:=b) (H:=G.filter fun a=>!decide (a=t)) (by rw [←ht];exact mem_split hm) (.inl rfl)]
 exact sq_same fun a=>by rw [hR a];simp
include hG hc hm hR hw in
theorem prem_var {p:Nat} {b:Fm} (ht:t=imp (var p) b) (hT1:T=[b]) (hb:OkF b) (hp:var p∈G):Prem G c [(R,c)]:=by
 subst hT1
 have hlt:wts [b]<wt t:=by rw [ht];have:=wt_imp (var p) b;simp only [wts];omega
 refine prem_one hG hc (okL_one hb) hR hw hlt ?_;exact sq_impL (x:=var p) (b:=b) (H:=G.filter fun a=>!decide (a=t)) (by rw [←ht];exact mem_split hm) (mem_without.2 ⟨hp,by rw [ht];intro h;cases h⟩) (fun a=>by rw [hR a];simp)
include hG hc hm hR hw in
theorem prem_and {x y:Fm} (ht:t=and x y) (hT1:T=[x,y]) (hx:OkF x) (hy:OkF y):Prem G c [(R,c)]:=by
 subst hT1
 have hlt:wts [x,y]<wt t:=by rw [ht];have:=wt_and x y;simp only [wts];omega
 refine prem_one hG hc (okL_two hx hy) hR hw hlt ?_;exact sq_andL (x:=x) (y:=y) (H:=G.filter fun a=>!decide (a=t)) (by rw [←ht];exact mem_split hm) (fun a=>by rw [hR a];simp)
include hG hc hm hR hw in
theorem prem_andimp {x y b:Fm} (ht:t=imp (and x y) b) (hT1:T=[imp x (imp y b)]) (hx:OkF x) (hy:OkF y) (hb:OkF b):Prem G c [(R,c)]:=by
 subst hT1
 have hlt:wts [imp x (imp y b)]<wt t:=by rw [ht];have:=wt_andimp x y b;simp only [wts];omega
 refine prem_one hG hc (okL_one (.mkImp hx (.mkImp hy hb))) hR hw hlt ?_;exact sq_andimpL (x:=x) (y:=y) (b:=b) (H:=G.filter fun a=>!decide (a=t)) (by rw [←ht];exact mem_split hm) (fun a=>by rw [hR a];simp)
include hG hc hm hR hw in
theorem prem_orimp {x y b:Fm} (ht:t=imp (or x y) b) (hT1:T=[imp x b,imp y b]) (hx:OkF x) (hy:OkF y) (hb:OkF b):Prem G c [(R,c)]:=by
 subst hT1
 have hlt:wts [imp x b,imp y b]<wt t:=by rw [ht];have:=wt_orimp x y b;simp only [wts];omega
 refine prem_one hG hc (okL_two (.mkImp hx hb) (.mkImp hy hb)) hR hw hlt ?_;exact sq_orimpL (x:=x) (y:=y) (b:=b) (H:=G.filter fun a=>!decide (a=t)) (by rw [←ht];exact mem_split hm) (fun a=>by rw [hR a];simp)
end
theorem prem_or {G R R':List Fm} {c t x y:Fm} (hG:OkL G) (hc:OkF c) (hm:t∈G) (ht:t=or x y) (hx:OkF x) (hy:OkF y)
  (hR:∀ a,a∈R↔a∈[x]∨a∈G.filter (fun a=>!decide (a=t))) (hw:wts R+wt t≤wts G+wts [x]) (hR':∀ a,a∈R'↔a∈[y]∨a∈G.filter (fun a=>!decide (a=t))) (hw':wts R'+wt t≤wts G+wts [y]):Prem G c [(R,c),(R',c)]:=by
 have h1:=wt_or x y;rw [←ht] at h1;simp only [wts] at hw hw';refine ⟨fun g hg=>?_,?_⟩
 ·rcases List.mem_cons.1 hg with rfl | hg
  ·exact ⟨okL_instead hG (okL_one hx) hR,hc,by simp only;omega⟩
  ·rw [List.mem_singleton.1 hg]
   exact ⟨okL_instead hG (okL_one hy) hR',hc,by simp only;omega⟩
 ·rw [sq_orL (x:=x) (y:=y) (H:=G.filter fun a=>!decide (a=t)) (K:=R) (K':=R') (by rw [←ht];exact mem_split hm) (fun a=>by rw [hR a];simp) (fun a=>by rw [hR' a];simp)]
  simp
theorem Prem.all {G:List Fm} {c:Fm} {gs:List (List Fm×Fm)} (h:Prem G c gs):(!(gs.any fun g=>!sqB g.1 g.2))=sqB G c:=by
 rw [Bool.eq_iff_iff];simp only [Bool.not_eq_true',List.any_eq_false,Bool.not_eq_true',Bool.not_eq_false,sqB_iff];exact h.2.symm
end
section
open Go.RowKit
theorem arrow_three (x y z:List Nd) (v:Value) (w:World) (hv:NdsL w v [x,y,z]) (hl:x.length+y.length+z.length≤1000000000):Calls Tryz.prog 247 #[v] w (RetN w (⟨4,0⟩::(x++(⟨4,0⟩::(y++z))))):=by
 have hv0:=hv;obtain ⟨p,cap,rfl,hle,hmx,hlm,_⟩:=hv;simp only [List.length_cons,List.length_nil] at*;unfold maxLen at hmx;obtain ⟨b,off,u1,rfl,hc1,h1⟩:=hv0.get 0 (by simp);obtain ⟨b',off',u2,e,hc2,h2⟩:=hv0.get 1 (by simp)
 cases e
 obtain ⟨b',off',u3,e,hc3,h3⟩:=hv0.get 2 (by simp)
 cases e
 simp only [List.getElem_cons_zero,List.getElem_cons_succ] at h1 h2 h3;rw [Nat.add_zero] at hc1;obtain ⟨p1,n1,q1,rfl⟩:=h1.shape;obtain ⟨p2,n2,q2,rfl⟩:=h2.shape;obtain ⟨p3,n3,q3,rfl⟩:=h3.shape;clear hv0;have HJ:=hid (join_any 4 y z _ _ w h2 h3 (by omega));have HJ2:=hid (fun u2 w2 (k:Keeps w w2) (h:Nds w2 u2 (⟨4,0⟩::(y++z)))=>join_any 4 x (⟨4,0⟩::(y++z)) _ u2 w2 (h1.keeps k) h (by simp only [List.length_cons,List.length_append];omega))
 have hlen:(⟨4,0⟩::(y++z):List Nd).length≤2147483648:=by simp only [List.length_cons,List.length_append];omega
 clear h1 h2 h3;go_enter Tryz.func247,Tryz.ntmps247;go_wp2
 go_loopw [3,4] (fun o i' wr=>(i'=.int .i64 1∧o=.slice p3 n3 q3∧wr=w)∨(i'=.int .i64 0∧OwnN wr w.heap.size o (⟨4,0⟩::(y++z))∧Keeps w wr)∨(i'=.int .i64 (-1)∧OwnN wr w.heap.size o (⟨4,0⟩::(x++(⟨4,0⟩::(y++z))))∧Keeps w wr)) (fun _ i _=>(intOf i+1).toNat)
 case atStart=>exact .inl ⟨rfl,rfl,rfl⟩
 case round=>
  rcases hrel with ⟨rfl,rfl,rfl⟩ | ⟨rfl,ho,kw⟩ | ⟨rfl,ho,kw⟩
  ·go_wp2_with fail
   refine HJ.out.mono ?_;rintro e w2 ⟨v2,rfl,hv2,k2⟩;go_wp2_with fail;go_roundw
   case rel=>exact .inr (.inl ⟨rfl,hv2,k2⟩)
   case measure=>simp [intOf]
  ·have hn:=ho.nds hlen
   obtain ⟨p4,n4,q4,rfl⟩:=hn.shape
   replace hc1:=kw.cell hc1
   have HN:=hid hn;clear hn;go_wp2_with fail;refine (HJ2.out _ _ kw HN.out).mono ?_;rintro e w2 ⟨v2,rfl,hv2,k2⟩;go_wp2_with fail;go_roundw
   case rel=>exact .inr (.inr ⟨rfl,hv2.mono kw.size,kw.trans k2⟩)
   case measure=>simp [intOf]
  ·go_wp2
   go_ret;exact ⟨_,rfl,ho,kw⟩
theorem Nds.undrew {w:World} {v:Value} {a:List Nd} (h:Nds w.drew v a):Nds w v a:=h
theorem cells_alloc {w:World} {a b:Addr} {u v:Value} (o:Obj) (h:w.cell? a=some u∧w.cell? b=some v):(w.alloc o).cell? a=some u∧(w.alloc o).cell? b=some v:=⟨Lib.cell?_alloc_some o h.1,Lib.cell?_alloc_some o h.2⟩
theorem cells_keeps {w w':World} {a b:Addr} {u v:Value} (k:Keeps w w') (h:w.cell? a=some u∧w.cell? b=some v):w'.cell? a=some u∧w'.cell? b=some v:=⟨k.cell h.1,k.cell h.2⟩
theorem cells4_alloc {w:World} {a b c d:Addr} {u v x y:Value} (o:Obj) (h:(w.cell? a=some u∧w.cell? b=some v)∧(w.cell? c=some x∧w.cell? d=some y)):((w.alloc o).cell? a=some u∧(w.alloc o).cell? b=some v)∧((w.alloc o).cell? c=some x∧(w.alloc o).cell? d=some y):=⟨cells_alloc o h.1,cells_alloc o h.2⟩
theorem cells4_keeps {w w':World} {a b c d:Addr} {u v x y:Value} (k:Keeps w w') (h:(w.cell? a=some u∧w.cell? b=some v)∧(w.cell? c=some x∧w.cell? d=some y)):(w'.cell? a=some u∧w'.cell? b=some v)∧(w'.cell? c=some x∧w'.cell? d=some y):=⟨cells_keeps k h.1,cells_keeps k h.2⟩
theorem implied_and (G:List Fm) (c a1 a2 b t:Fm) (x s:ByteArray) (ht:t=Fm.imp (Fm.and a1 a2) b) (hx:bts x=t.body) (hs:bts s=c.body) (hm:t∈G) (hG:OkL G) (hc:OkF c) (hl:wts G+wt c≤50000000)
  (p:Option Addr) (n q:Nat) (va vb:Value) (w:World) (hv:Left w (.slice p n q) G) (hva:Nds w va (Fm.and a1 a2).enc) (hvb:Nds w vb b.enc):
  Calls Tryz.prog 243 #[.agg #[.slice p n q,.string s],.string x,va,vb] w fun e w'=>∃ u ok,e=.returned (.tuple #[u,.bool ok])∧Keeps w w'∧(ok=true→∃ gs,GoalL w' u gs∧Prem G c gs)∧(ok=false→Left4 G t):=by
 have hOk:=hG t hm;have hwt:=wts_mem hm;obtain ⟨hoa,hob⟩:=OkF.imp (ht▸hOk);have hab:=wt_imp (Fm.and a1 a2) b;rw [←ht] at hab;have hla:=len_le_wt (Fm.and a1 a2);have hlb:=len_le_wt b;obtain ⟨b0,off,na,ca,rfl,h0,h1,h2,h3,hk,_⟩:=hva.root;obtain ⟨pb,nb,cb,rfl⟩:=hvb.shape;have kA:=(Keeps.refl w).alloc (.cells #[.slice p n q,.string s] 177);have kD:=kA.drew
 have pa:(w.alloc (.cells #[.slice p n q,.string s] 177)).cell? ⟨w.heap.size,0,none⟩=some (.slice p n q):=by simp
 have pb':(w.alloc (.cells #[.slice p n q,.string s] 177)).cell? ⟨w.heap.size,1,none⟩=some (.string s):=by simp
 have qa:(w.alloc (.cells #[.slice p n q,.string s] 177)).drew.cell? ⟨w.heap.size,0,none⟩=some (.slice p n q):=by show (w.alloc _).cell? _=_;simp
 have qb:(w.alloc (.cells #[.slice p n q,.string s] 177)).drew.cell? ⟨w.heap.size,1,none⟩=some (.string s):=by show (w.alloc _).cell? _=_;simp
 have HI:=hid (fun (T:List Fm) (u:Value) (w2:World) (k:Keeps w w2) (hu:Left w2 u T) (hT:OkL T) (hl2:wts T≤50000000)=>instead_any G T t x hx hm p n q s u w2 (hv.keeps k) hu hG hT (by omega));have HTb:=hid (fun w2 (k:Keeps w w2)=>text_any b hob.1 (by omega) _ w2 (hvb.keeps k));have HTa:=hid (fun w2 (k:Keeps w w2)=>text_any (Fm.and a1 a2) hoa.1 (by omega) _ w2 (hva.keeps k));have HV:=hid hv;have HVA:=hid hva;have HVB:=hid hvb;clear hv hx hla hlb hva hvb;have q0:=And.intro qa qb;obtain ⟨ho1,ho2⟩:=OkF.and hoa;have hle:=len_le_wt (Fm.and a1 a2);have hle2:=len_le_wt b;simp only [Fm.enc,List.length_cons,List.length_append] at hle;have HF:=hid (first_any _ _ a1 a2.enc _ _ (HVA.out.keeps kD) rfl);have HS:=hid (second_any _ _ a1 a2 _ _ (HVA.out.keeps kD) rfl);have HBd:=hid (HVB.out.keeps kD)
 have hbig:(Fm.imp a1 (Fm.imp a2 b)).enc.length≤100000000:=by simp only [Fm.enc,List.length_cons,List.length_append];omega
 have hwt2:wts [Fm.imp a1 (Fm.imp a2 b)]≤50000000:=by have:=wt_andimp a1 a2 b;rw [←ht] at this;simp only [wts];omega
 have hsz:a1.enc.length+a2.enc.length+b.enc.length≤1000000000:=by omega
 replace hk:=kA.cell (show w.cell? ⟨b0,off,none⟩=some (.int .i64 2) from hk)
 have q1:=hid (fun B=>cells_keeps ((Keeps.refl ((w.alloc (.cells #[.slice p n q,.string s] 177)).alloc B)).drew) (cells_alloc B (And.intro pa pb')))
 have HL:=hid (fun v1 v2 (h1:Nds (w.alloc (.cells #[.slice p n q,.string s] 177)).drew v1 a1.enc) (h2:Nds (w.alloc (.cells #[.slice p n q,.string s] 177)).drew v2 a2.enc)=>
  (NdsL.lit3N (N:=w.heap.size+1) (w:=w.alloc (.cells #[.slice p n q,.string s] 177)) (by simp) (Nds.undrew h1) (Nds.undrew h2) (HVB.out.keeps kA)).keeps (Keeps.refl _).drew)
 go_enter Tryz.func243,Tryz.ntmps243;go_wp2_with fail
 go_region_held3 (fun w'=>w'.cell? ⟨w.heap.size,0,none⟩=some (.slice p n q)∧w'.cell? ⟨w.heap.size,1,none⟩=some (.string s)) (first | exact q0 | exact q1.out _ | exact q2 | exact cells_alloc _ q2 | exact q3 | exact cells_alloc _ q3 | exact q4 | exact cells_alloc _ q4) (first
  | (go_at_call 67;refine HF.out.mono ?_;rintro e w' ⟨v1,rfl,hv1,rfl⟩;obtain ⟨p1,n1,c1,rfl⟩:=hv1.shape)
  | (go_at_call 70;refine HS.out.mono ?_;rintro e w' ⟨v2,rfl,hv2,rfl⟩;obtain ⟨p2,n2,c2,rfl⟩:=hv2.shape)
  | (go_at_call 247;refine (arrow_three a1.enc a2.enc b.enc _ _ (HL.out _ _ hv1 hv2) hsz).mono ?_;rintro e w2 ⟨v3,rfl,hv3,k2⟩;have q2:=cells_keeps k2 (q1.out _))
  | (go_at_call 94;refine (text_any (Fm.imp a1 (Fm.imp a2 b)) (OkF.mkImp ho1 (OkF.mkImp ho2 hob)).1 hbig _ _ (hv3.nds (Nat.le_trans hbig (by omega)))).mono ?_;rintro e w3 ⟨sb,rfl,hsb,k3⟩;have q3:=cells_keeps k3 q2)
  | (go_at_call 242;refine (HI.out [Fm.imp a1 (Fm.imp a2 b)] _ _ ((((kA.alloc _).drew.trans k2).trans k3).alloc _) (Left.lit1 w3 hsb) (okL_one (OkF.mkImp ho1 (OkF.mkImp ho2 hob))) hwt2).mono ?_;rintro e w4 ⟨p4,n4,c4,R,rfl,hR,hmem,hwR,k4⟩;have q4:=cells_keeps k4 (cells_alloc _ q3)))
 go_wp2
 go_ret2
 exact ⟨_,true,rfl,(((((kA.alloc _).drew.trans k2).trans k3).alloc _).trans k4).alloc _,fun _=>⟨_,GoalL.lit1 hR hs,prem_andimp hG hc hm hmem hwR ht rfl ho1 ho2 hob⟩,fun h=>by cases h⟩
end
end Go.Proofs.YtbccmdfdclomiaaGreatDoor
