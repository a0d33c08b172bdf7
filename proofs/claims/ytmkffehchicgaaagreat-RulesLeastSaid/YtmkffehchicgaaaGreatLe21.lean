/- Parts of a proof, merged out of smaller texts: the abstract machine and what functions do. Conditions: none. -/
import Derived.Test.YtmkffehchicgaaaGreatLe1
import Derived.Test.YtmkffehchicgaaaGreatLe9
import Derived.Test.YtmkffehchicgaaaGreatLe13
import Derived.Test.YtmkffehchicgaaaGreatLe14
set_option linter.unusedSimpArgs false
set_option linter.unusedVariables false
namespace Go.AM
open Go Go.Proofs
noncomputable section
def kN(n:Int):Bool:=(decide (97≤n)&&decide (n≤122))||(decide (65≤n)&&decide (n≤90))
def sX(n:Int):Bool:=decide (48≤n)&&decide (n≤57)
def words:List bI:=[[97,110,100],[111,114],[110,111,116],[115,111,109,101],[97,108,108],[108,102,112],[112,102,112],[116,99],[101,120,105,115,116,115],[116,114,117,101],[102,97,108,115,101]]
def zS(s:bI):Bool:=words.any fun w=>s==w
theorem ux{n:Int}{h:ag}{K:Out→ag→Bool}(hK:K (.ret (.bool (kN n))) h=true):Sem Tryz.prog 163 [.int .u8 n] h K:=by
 refine F.va ?_
 simp only [mU,ua,bindO_some,condB_bool]
 unfold kN at hK
 by_cases h1:97≤n<;>by_cases h2:n≤122<;>by_cases h3:65≤n<;>by_cases h4:n≤90<;>simpa [h1,h2,h3,h4] using hK
theorem D6{n:Int}{h:ag}{K:Out→ag→Bool}(hK:K (.ret (.bool (sX n))) h=true):Sem Tryz.prog 165 [.int .u8 n] h K:=by
 refine F.w8 ?_
 simp only [mU,ua,bindO_some,condB_bool]
 unfold sX at hK
 by_cases h1:48≤n<;>by_cases h2:n≤57<;>simpa [h1,h2] using hK
theorem uy{n:Int}{h:ag}{K:Out→ag→Bool}(hK:K (.ret (.bool (kN n))) h=true):Sem Tryz.prog 170 [.int .u8 n] h K:=by
 refine F.vb ?_
 simp only [mU,ua,bindO_some,condB_bool]
 unfold kN at hK
 by_cases h1:97≤n<;>by_cases h2:n≤122<;>by_cases h3:65≤n<;>by_cases h4:n≤90<;>simpa [h1,h2,h3,h4] using hK
theorem D8{n:Int}{h:ag}{K:Out→ag→Bool}(hK:K (.ret (.bool (sX n))) h=true):Sem Tryz.prog 172 [.int .u8 n] h K:=by
 refine F.xd ?_
 simp only [mU,ua,bindO_some,condB_bool]
 unfold sX at hK
 by_cases h1:48≤n<;>by_cases h2:n≤57<;>simpa [h1,h2] using hK
theorem FF{s:bI}{h:ag}{K:Out→ag→Bool}(hK:K (.ret (.bool (zS s))) h=true):Sem Tryz.prog 164 [.str s] h K:=by
 refine F.zb ?_
 simp only [yX,bindO_some,condB_bool]
 simp only [zS,words,List.any_cons,List.any_nil,Bool.or_false] at hK
 repeat (first|exact hK|(generalize (s==_)=b at hK ⊢;cases b<;>simp only [aI,aG,Bool.true_or,Bool.false_or] at hK ⊢<;>try exact hK))
theorem FG{s:bI}{h:ag}{K:Out→ag→Bool}(hK:K (.ret (.bool (zS s))) h=true):Sem Tryz.prog 171 [.str s] h K:=by
 refine F.zf ?_
 simp only [yX,bindO_some,condB_bool]
 simp only [zS,words,List.any_cons,List.any_nil,Bool.or_false] at hK
 repeat (first|exact hK|(generalize (s==_)=b at hK ⊢;cases b<;>simp only [aI,aG,Bool.true_or,Bool.false_or] at hK ⊢<;>try exact hK))
def okB(b:UInt8):Bool:=kN b.toNat||sX b.toNat
def dZ(s:bI):Bool:=match s with
 |[]=>false
 |c :: _=>decide (s.length≤12)&&(kN c.toNat&&(!zS s&&s.all okB))
theorem gJ{α:Type}{p:α→Bool}{l:List α}{i:Nat}{a:α}(ha:l[i]?=some a)(ht:(l.take i).all p=true)(hp:p a=true):(l.take (i+1)).all p=true:=by
 rw [List.take_add_one,ha];simp [ht,hp]
theorem all_false{α:Type}{p:α→Bool}{l:List α}{i:Nat}{a:α}(ha:l[i]?=some a)(hp:p a=false):l.all p=false:=by
 rw [Bool.eq_false_iff]
 intro h
 rw [List.all_eq_true] at h
 have:=h a (List.mem_of_getElem? ha)
 rw [hp] at this;cases this
theorem dO{s:bI}{h:ag}{K:Out→ag→Bool}(hK:K (.ret (.bool (dZ s))) h=true):Sem Tryz.prog 116 [.str s] h K:=by
 refine F.y9 ?_
 cases s with
 |nil=>simpa [dZ,lK,om,ax,af] using hK
 |cons c s'=>
  have h0:(c :: s')[0]?=some c:=rfl
  simp only [lK,om,oq,bindO_some,condB_bool]
  have h1:decide (((c :: s').length:Int)<1)=false:=by simp;omega
  simp only [h1,aG]
  by_cases h2:(c :: s').length≤12
  ·have h3:decide ((12:Int)<((c :: s').length:Int))=false:=by simp at h2 ⊢;omega
   simp only [h3,aG]
   rw [show iF (.str (c :: s')) (.int .i64 0)=some (.int .u8 (c.toNat:Int)) from yl (i:=0) h0]
   simp only [bindO_some]
   refine ak (ux ?_)
   simp only [outK_ret,mw,bindO_some,condB_bool]
   cases hl:kN c.toNat with
   |false=>simpa [dZ,hl] using hK
   |true=>
    simp only [Bool.not_true,aG]
    refine ak (FF ?_)
    simp only [outK_ret,condB_bool]
    cases hw:zS (c :: s') with
    |true=>simpa [dZ,hl,hw] using hK
    |false=>
     simp only [aG]
     have hn:dZ (c :: s')=(c :: s').all okB:=by simp only [dZ,hl,hw,Bool.not_false,Bool.true_and];rw [decide_eq_true h2,Bool.true_and]
     rw [hn] at hK
     have h4:((c :: s').take 1).all okB=true:=by simp [okB,hl]
     have h5:1≤(c :: s').length:=by simp
     clear h0 h1 h3 hl hw hn
     generalize (c :: s')=s at hK h2 h4 h5 ⊢
     refine aB 1 s.length h5 (fun i e h'=>h'=h∧e 0 = .str s∧e 3 = .int .i64 (i:Int)∧(s.take i).all okB=true) ⟨rfl,rfl,rfl,h4⟩ ?_ ?_
     ·rintro i e h' _ hi ⟨rfl,e0,e3,ht⟩ K' hn hx hr hp
      have hb:s[i]?=some s[i]:=List.getElem?_eq_getElem hi
      have hlt:decide ((i:Int)<(s.length:Int))=true:=by simp;omega
      rw [F.dO.aN]
      simp only [e0,e3,lK,om,yl hb,bindO_some,condB_bool,hlt,aI]
      refine ak (ux ?_)
      simp only [outK_ret,mw,bindO_some,condB_bool]
      cases hl:kN s[i].toNat with
      |true=>
       simp only [Bool.not_true,aG,g8 (a:=(i:Int)) (b:=1) (by omega) (by omega),bindO_some]
       exact hn _ _ ⟨rfl,e0,rfl,gJ hb ht (by simp [okB,hl])⟩
      |false=>
       simp only [Bool.not_false,aI]
       refine ak (D6 ?_)
       simp only [outK_ret,mw,bindO_some,condB_bool]
       cases hd:sX s[i].toNat with
       |true=>
        simp only [Bool.not_true,aG,g8 (a:=(i:Int)) (b:=1) (by omega) (by omega),bindO_some]
        exact hn _ _ ⟨rfl,e0,rfl,gJ hb ht (by simp [okB,hd])⟩
       |false=>
        simp only [Bool.not_false,aI]
        rw [hr,F.dO.bq]
        have:s.all okB=false:=all_false hb (by simp [okB,hl,hd])
        rw [this] at hK;exact hK
     ·rintro e h' ⟨rfl,e0,e3,ht⟩ K' hx
      have hlt:decide ((s.length:Int)<(s.length:Int))=false:=by simp
      rw [F.dO.aN]
      simp only [e0,e3,lK,om,bindO_some,condB_bool,hlt,aG]
      rw [hx,F.dO.aD]
      rw [List.take_of_length_le (Nat.le_refl _)] at ht
      rw [ht] at hK;exact hK
  ·have h3:decide ((12:Int)<((c :: s').length:Int))=true:=by simp at h2 ⊢;omega
   simp only [h3,aI]
   have:dZ (c :: s')=false:=by simp only [dZ];rw [decide_eq_false h2];rfl
   rw [this] at hK;exact hK
theorem dz{s:bI}{h:ag}{K:Out→ag→Bool}(hK:K (.ret (.bool (dZ s))) h=true):Sem Tryz.prog 135 [.str s] h K:=by
 refine F.za ?_
 cases s with
 |nil=>simpa [dZ,yX,ax,af] using hK
 |cons c s'=>
  have h0:(c :: s')[0]?=some c:=rfl
  have h1:((c :: s')==([]:bI))=false:=rfl
  simp only [lK,yX,oq,bindO_some,condB_bool,h1,aG]
  by_cases h2:(c :: s').length≤12
  ·have h3:decide ((12:Int)<((c :: s').length:Int))=false:=by simp at h2 ⊢;omega
   simp only [h3,aG]
   rw [show iF (.str (c :: s')) (.int .i64 0)=some (.int .u8 (c.toNat:Int)) from yl (i:=0) h0]
   simp only [bindO_some]
   refine ak (uy ?_)
   simp only [outK_ret,mw,bindO_some,condB_bool]
   cases hl:kN c.toNat with
   |false=>simpa [dZ,hl] using hK
   |true=>
    simp only [Bool.not_true,aG]
    refine ak (FG ?_)
    simp only [outK_ret,condB_bool]
    cases hw:zS (c :: s') with
    |true=>simpa [dZ,hl,hw] using hK
    |false=>
     simp only [aG,lK,bindO_some]
     have hn:dZ (c :: s')=(c :: s').all okB:=by simp only [dZ,hl,hw,Bool.not_false,Bool.true_and];rw [decide_eq_true h2,Bool.true_and]
     rw [hn] at hK
     have h4:((c :: s').take 1).all okB=true:=by simp [okB,hl]
     have h5:1≤(c :: s').length:=by simp
     clear h0 h1 h3 hl hw hn
     generalize (c :: s')=s at hK h2 h4 h5 ⊢
     refine aB 0 s.length (Nat.zero_le _) (fun i e h'=>h'=h∧e 0 = .str s∧e 23 = .int .i64 (i:Int)∧e 22 = .int .i64 (s.length:Int)∧(s.take i).all okB=true) ⟨rfl,rfl,rfl,rfl,rfl⟩ ?_ ?_
     ·rintro i e h' _ hi ⟨rfl,e0,e3,e22,ht⟩ K' hn hx hr hp
      have hb:s[i]?=some s[i]:=List.getElem?_eq_getElem hi
      have hlt:decide ((i:Int)<(s.length:Int))=true:=by simp;omega
      rw [F.dz.aN]
      simp only [e0,e3,e22,lK,om,yl hb,bindO_some,condB_bool,hlt,aI]
      refine ak (uy ?_)
      simp only [outK_ret,mw,bindO_some,condB_bool]
      cases hl:kN s[i].toNat with
      |true=>
       simp only [Bool.not_true,aG,g8 (a:=(i:Int)) (b:=1) (by omega) (by omega),bindO_some]
       exact hn _ _ ⟨rfl,e0,rfl,e22,gJ hb ht (by simp [okB,hl])⟩
      |false=>
       simp only [Bool.not_false,aI]
       refine ak (D8 ?_)
       simp only [outK_ret,mw,bindO_some,condB_bool]
       cases hd:sX s[i].toNat with
       |true=>
        simp only [Bool.not_true,aG,g8 (a:=(i:Int)) (b:=1) (by omega) (by omega),bindO_some]
        exact hn _ _ ⟨rfl,e0,rfl,e22,gJ hb ht (by simp [okB,hd])⟩
       |false=>
        simp only [Bool.not_false,aI]
        rw [hr,F.dz.bq]
        have:s.all okB=false:=all_false hb (by simp [okB,hl,hd])
        rw [this] at hK;exact hK
     ·rintro e h' ⟨rfl,e0,e3,e22,ht⟩ K' hx
      have hlt:decide ((s.length:Int)<(s.length:Int))=false:=by simp
      rw [F.dz.aN]
      simp only [e0,e3,e22,lK,om,bindO_some,condB_bool,hlt,aG]
      rw [hx,F.dz.aD]
      rw [List.take_of_length_le (Nat.le_refl _)] at ht
      rw [ht] at hK;exact hK
  ·have h3:decide ((12:Int)<((c :: s').length:Int))=true:=by simp at h2 ⊢;omega
   simp only [h3,aI]
   have:dZ (c :: s')=false:=by simp only [dZ];rw [decide_eq_false h2];rfl
   rw [this] at hK;exact hK
theorem fF{x:Sl Int}{i:Nat}{v:Int}(hv:x.l[i]?=some v){h:ag}:ai none (.iptr (x.l.flatMap encI) (i*1)) h=some (.int .i64 v):=by
 rw [nZ kT hv];rfl
def gI(n:Int)(l:List Int):Bool:=l.all fun x=>!decide (x<0)&&!decide (n≤x)
def iv(n:Int):AV:=.int .i64 n
theorem oE(d:List Int):d.map iv=d.flatMap encI:=by
 induction d with
 |nil=>rfl
 |cons a d ih=>rw [List.map_cons,List.flatMap_cons,ih];rfl
theorem jT{b i n:Nat}{k:IntKind}(h:i<n):cL 1 (.slice b 0 n 1) (.int k (i:Int))=some (.ptr b i):=by simp [cL,asNat,h]
theorem jU{b i:Nat}{h:ag}{d:List Int}{v:Int}(hb:h.get b=some (.cells (d.map iv)))(hv:d[i]?=some v):ai none (.ptr b i) h=some (.int .i64 v):=by
 rw [au hb,rf,List.getElem?_map,hv];rfl
theorem mC{b i:Nat}{h:ag}{d:List Int}{v:Int}(hb:h.get b=some (.cells (d.map iv)))(hi:i<d.length):bg 1 (.ptr b i) (.int .i64 v) h=some (h.set b (.cells ((d.set i v).map iv))):=by
 rw [cZ (n:=1) hb rfl rfl (by simp;omega),List.map_set];rfl
theorem Na(n:Nat):gY [.int .i64 0] n=(List.replicate n (0:Int)).map iv:=by
 induction n with
 |zero=>rfl
 |succ n ih=>rw [gY,ih];rfl
theorem ry{n:Nat}(hn:n≤1000000)(h:ag):dy 1 8 [.int .i64 0] (.int .i64 (n:Int)) (.int .i64 (n:Int)) h=some (.slice h.next 0 n 1,h.alloc (.cells ((List.replicate n (0:Int)).map iv))):=by
 have:(8*(n:Int))≤140737488355328:=by omega
 simp [dy,uQ,this,Na]
theorem D9{d:List Int}{h:ag}{b:Nat}(hb:h.get b=some (.cells (d.map iv))):Fz true h (.slice b 0 d.length 1) (an encI 1 (some d)):=by
 refine .slice b 0 d.length 1 _ _ hb (by rw [oE]) fun i x y hx hy=>?_
 rw [oE,hy] at hx
 cases hx
 rw [← oE,List.getElem?_map] at hy
 obtain ⟨v,hv,rfl⟩:=Option.map_eq_some_iff.1 hy
 exact .scalar _ rfl
theorem Jg(a b:Int):∃ v,aA .add (.int .i64 a) (.int .i64 b)=some (.int .i64 v):=⟨_,Ku a b⟩
def pE(n:Nat):List Int→Nat→Nat
 |[],r=>r
 |x :: l,r=>pE n l (r*n+x.toNat)
def gy(n:Nat)(l:List Int):Nat:=pE n l 0
inductive Own {α:Type} (enc:α→List AV) (sz k:Nat) (h:ag):AV→List α→Prop
 |nil:Own enc sz k h .nils []
 |row (b:Nat) (l:List α):k≤b→b<h.next→h.get b=some (.cells (l.flatMap enc))→Own enc sz k h (.slice b 0 l.length sz) l
variable {α:Type} {enc:α→List AV} {sz k:Nat}
theorem Own.len{h h':ag}{a:AV}{l:List α}(o:Own enc sz k h a l):bx .slice a h'=some (.int .i64 (l.length:Int)):=by
 cases o<;>rfl
theorem Own.ext{h h':ag}{a:AV}{l:List α}(o:Own enc sz k h a l)(hx:bT h h'):Own enc sz k h' a l:=by
 cases o with
 |nil=>exact .nil
 |row b l h1 h2 h3=>exact .row b l h1 (Nat.lt_of_lt_of_le h2 hx.next) (by rw [hx.get b h2];exact h3)
theorem Own.get{h:ag}{a:AV}{l:List α}(o:Own enc sz k h a l)(he:∀ x,(enc x).length=sz){i:Nat}{v:α}(hv:l[i]?=some v) :
  ∃ b,k≤b∧b<h.next∧(∀ q:IntKind,cL sz a (.int q (i:Int))=some (.ptr b (i*sz)))∧ai (some sz) (.ptr b (i*sz)) h=some (.agg (enc v))∧∀ m,m<sz→ai none (.ptr b (i*sz+m)) h=(enc v)[m]?:=by
 cases o with
 |nil=>simp at hv
 |row b l h1 h2 h3=>
  have hi:=(List.getElem?_eq_some_iff.1 hv).1
  refine ⟨b,h1,h2,fun q=>by simp [cL,asNat,hi],?_,fun m hm=>by rw [au h3,rf,mT he l i m v hv hm]⟩
  rw [au h3]
  have hp:=lJ he l i v hv
  simp only [ij]
  have hlen:i*sz+sz≤(l.flatMap enc).length:=by
   rw [gq he]
   have:(i+1)*sz≤l.length*sz:=Nat.mul_le_mul_right sz hi
   rw [Nat.succ_mul] at this;exact this
  rw [if_pos (by simpa using hlen),hp]
section
variable {α:Type} {enc:α→List AV} {sz k:Nat}
structure Row (enc:α→List AV) (sz:Nat) (h:ag) (x:AV) (l:List α):Prop where
 len:jm x=some l.length
 cells:fT sz l.length x h=some (l.flatMap enc)
theorem BL(he:∀ x,(enc x).length=sz):∀ (l:List α) (i:Nat),(l.flatMap enc).take (i*sz)=(l.take i).flatMap enc
 |[],i=>by simp
 |x :: l,0=>by simp
 |x :: l,i+1=>by
  rw [List.flatMap_cons,List.take_succ_cons,List.flatMap_cons,List.take_append,he,Nat.succ_mul,Nat.add_sub_cancel,BL he l i,List.take_of_length_le (by rw [he];omega)]
theorem BM(he:∀ x,(enc x).length=sz):∀ (l:List α) (i:Nat),(l.flatMap enc).drop (i*sz)=(l.drop i).flatMap enc
 |[],i=>by simp
 |x :: l,0=>by simp
 |x :: l,i+1=>by
  rw [List.flatMap_cons,List.drop_succ_cons,List.drop_append,he,Nat.succ_mul,Nat.add_sub_cancel,BM he l i,List.drop_of_length_le (by rw [he];omega),List.nil_append]
theorem Own.LX{h:ag}{a:AV}{l:List α}(o:Own enc sz k h a l)(he:∀ x,(enc x).length=sz){i:Nat}(hi:i≤l.length) :
  ∃ x,(∀ q:IntKind,ff (some sz) a none (some (.int q (i:Int)))=some x)∧∀ h',bT h h'→Row enc sz h' x (l.take i):=by
 cases o with
 |nil=>simp at hi;subst hi;exact ⟨.nils,fun q=>by simp [ff,jm,kZ,asNat],fun h' _=>⟨rfl,rfl⟩⟩
 |row b l h1 h2 h3=>
  refine ⟨.slice b 0 i sz,fun q=>by simp [ff,jm,kZ,asNat,hi],fun h' hx=>⟨by simp [jm,Nat.min_eq_left hi],?_⟩⟩
  have h3':h'.get b=some (.cells (l.flatMap enc)):=by rw [hx.get b h2];exact h3
  have hl:(l.flatMap enc).length=l.length*sz:=gq he l
  have hm:(l.take i).length=i:=by rw [List.length_take,Nat.min_eq_left hi]
  simp only [fT,h3',if_true,Nat.zero_add,hl,hm,List.drop_zero]
  rw [if_pos (Nat.mul_le_mul_right sz hi),BL he]
theorem Own.LY{h:ag}{a:AV}{l:List α}(o:Own enc sz k h a l)(he:∀ x,(enc x).length=sz){i:Nat}(hi:i≤l.length) :
  ∃ x,(∀ q:IntKind,ff (some sz) a (some (.int q (i:Int))) none=some x)∧∀ h',bT h h'→Row enc sz h' x (l.drop i):=by
 cases o with
 |nil=>simp at hi;subst hi;exact ⟨.nils,fun q=>by simp [ff,jm,kZ,asNat],fun h' _=>⟨rfl,rfl⟩⟩
 |row b l h1 h2 h3=>
  refine ⟨.slice b (i*sz) (l.length-i) sz,fun q=>by simp [ff,jm,kZ,asNat,hi],fun h' hx=>⟨by simp [jm],?_⟩⟩
  have h3':h'.get b=some (.cells (l.flatMap enc)):=by rw [hx.get b h2];exact h3
  have hl:(l.flatMap enc).length=l.length*sz:=gq he l
  have hm:(l.drop i).length=l.length-i:=by rw [List.length_drop]
  simp only [fT,h3',if_true,hl,hm]
  have hle:i*sz+(l.length-i)*sz≤l.length*sz:=by rw [← Nat.add_mul];exact Nat.mul_le_mul_right sz (by omega)
  rw [if_pos hle,BM he,List.take_of_length_le]
  rw [gq he,hm];exact Nat.le_refl _
theorem qd(h1:∀ x,bL (enc x)=true):∀ l:List α,bL (l.flatMap enc)=true
 |[]=>rfl
 |x :: l=>by
  have app:∀ a b:List AV,bL a=true→bL b=true→bL (a++b)=true:=by
   intro a b ha hb
   induction a with
   |nil=>exact hb
   |cons y a ih=>
    simp only [bL,List.cons_append,Bool.and_eq_true] at ha ⊢
    exact ⟨ha.1,ih ha.2⟩
  rw [List.flatMap_cons]
  exact app _ _ (h1 x) (qd h1 l)
def dV:AV→Option Nat
 |.slice b _ _ _=>some b
 |_=>none
theorem Own.append{h:ag}{a x:AV}{l m:List α}(o:Own enc sz k h a l)(he:∀ x,(enc x).length=sz)(h1:∀ x,bL (enc x)=true)(r:Row enc sz h x m)(hk:k≤h.next){bytes:Nat}(hroom:(l.length+m.length)*bytes≤cX) :
  ∃ a' h',bW sz bytes a x h=some (a',h')∧Own enc sz k h' a' (l++m)∧(∀ c,c<h.next→dV a≠some c→h'.get c=h.get c)∧h.next≤h'.next∧(m≠[]→∀ c,dV a'=some c→h.next≤c):=by
 cases o with
 |nil=>
  rw [List.length_nil,Nat.zero_add] at hroom
  cases m with
  |nil=>
   refine ⟨.nils,h,?_,.nil,fun _ _ _=>rfl,Nat.le_refl _,fun h=>absurd rfl h⟩
   have hc:=r.cells
   have hl:=r.len
   simp only [List.length_nil] at hc hl
   simp [bW,hl,hc]
  |cons y m=>
   refine ⟨.slice h.next 0 (y :: m).length sz,h.alloc (.cells ((y :: m).flatMap enc)),?_,.row _ _ hk (Nat.lt_succ_self _) (aC _ _),fun c hc _=>by rw [ag.aW,if_neg (by omega)],Nat.le_succ _,fun _ c hc=>by cases hc;exact Nat.le_refl _⟩
   have h0:¬ (y :: m).length=0:=by simp
   simp only [bW,r.len,r.cells,if_neg h0]
   rw [if_pos (by rw [Bool.and_eq_true];exact ⟨decide_eq_true hroom,qd h1 _⟩)]
 |row b l hb1 hb2 hb3=>
  cases m with
  |nil=>
   rw [List.append_nil]
   refine ⟨.slice b 0 l.length sz,h,?_,.row b l hb1 hb2 hb3,fun _ _ _=>rfl,Nat.le_refl _,fun h=>absurd rfl h⟩
   have hc:=r.cells
   have hl:=r.len
   simp only [List.length_nil] at hc hl
   simp [bW,hl,hc]
  |cons y m=>
   have h0:¬ (y :: m).length=0:=by simp
   have hl:(l.flatMap enc).length=l.length*sz:=gq he l
   refine ⟨.slice h.next 0 (l++y :: m).length sz,(h.set b .dead).alloc (.cells ((l++y :: m).flatMap enc)),?_,.row _ _ hk ?_ ?_,fun c hc hne=>?_,?_,fun _ c hc=>by cases hc;exact Nat.le_refl _⟩
   ·simp only [bW,r.len,r.cells,if_neg h0,if_true,hb3,List.drop_zero,Nat.zero_add]
    rw [if_pos (by rw [Bool.and_eq_true,Bool.and_eq_true];exact ⟨⟨decide_eq_true hroom,qd h1 _⟩,decide_eq_true (by omega)⟩),← hl,List.take_length,List.flatMap_append,List.length_append]
   ·rw [ag.next_alloc,ag.next_set];omega
   ·have:=aC (h.set b .dead) (.cells ((l++y :: m).flatMap enc))
    rwa [ag.next_set] at this
   ·rw [ag.aW,ag.next_set,if_neg (by omega),ag.aO,if_neg (fun e=>hne (by rw [e];rfl))]
   ·rw [ag.next_alloc,ag.next_set];omega
end
theorem mD(s:bI):bL (encS s)=true:=rfl
def strLt(a b:bI):Bool:=Op.bytesLess a b
def eE:List bI→bI→List bI
 |[],s=>[s]
 |x :: l,s=>if strLt x s=true then x :: eE l s else if x=s then x :: l else s :: x :: l
theorem LZ(a b:bI):aA .lss (.str a) (.str b)=some (.bool (strLt a b)):=by simp [aA,strLt]
theorem mW(a b:bI):(a==b)=decide (a=b):=by
 by_cases h:a=b
 ·subst h;simp
 ·rw [decide_eq_false h];simp [h]
theorem Ea{l:List bI}{i:Nat}{x s:bI}(hx:l[i]?=some x):l.take i++eE (l.drop i) s=if strLt x s=true then l.take (i+1)++eE (l.drop (i+1)) s else if x=s then l else l.take i++(s :: l.drop i):=by
 have h1:=(List.getElem?_eq_some_iff.1 hx).1
 have hd:l.drop i=x :: l.drop (i+1):=by
  rw [List.drop_eq_getElem_cons h1]
  rw [List.getElem?_eq_getElem h1] at hx
  cases hx;rfl
 rw [hd,eE]
 split
 ·rw [List.take_add_one,hx];simp
 ·split
  ·rw [← hd,List.take_append_drop]
  ·rfl
theorem Own.ge{α:Type}{enc:α→List AV}{sz k:Nat}{h:ag}{a:AV}{l:List α}(o:Own enc sz k h a l){c:Nat}(hc:dV a=some c):k≤c:=by
 cases o with
 |nil=>cases hc
 |row b l h1 _ _=>cases hc;exact h1
theorem Own.weak{α:Type}{enc:α→List AV}{sz k j:Nat}{h:ag}{a:AV}{l:List α}(o:Own enc sz k h a l)(hj:j≤k):Own enc sz j h a l:=by
 cases o with
 |nil=>exact .nil
 |row b l h1 h2 h3=>exact .row b l (Nat.le_trans hj h1) h2 h3
theorem dI{k:Nat}{h:ag}{a:AV}{l:List bI}{s:bI}(o:Own encS 1 k h a l)(hk:k≤h.next)(hl:l.length≤100000){K:Out→ag→Bool}
  (hK:∀ a' h',bT h h'→Own encS 1 k h' a' (eE l s)→K (.ret a') h'=true):Sem Tryz.prog 86 [a,.str s] h K:=by
 have hbig:l.length≤cz:=by unfold cz;omega
 refine F.ve ?_
 have app:∀ i,i≤l.length→eE l s=l.take i++(s :: l.drop i)→∀ e:Env,e 0=a→e 1 = .str s→e 5 = .int .i64 (i:Int) →
   (af (eF [] [] []) fun c11=>
    af (ff (some 1) (e 0) none (some (e 5))) fun x12=>
    af (eF [(.str [])] [(0,1)] [(e 1)]) fun c13=>
    af (ff (some 1) (e 0) (some (e 5)) none) fun x14=>
    cq (bW 1 16 (.slice (ag.next h) 0 0 1) x12 (ag.alloc (ag.alloc h (.cells c11)) (.cells c13))) fun x15 h16=>
    cq (bW 1 16 x15 (.slice (ag.next (ag.alloc h (.cells c11))) 0 1 1) h16) fun x17 h18=>
    cq (bW 1 16 x17 x14 h18) fun x19 h20=>
    K (.ret x19) h20)=true:=by
  intro i hi he e e0 e1 e5
  obtain ⟨x12,hx12,r12⟩:=o.LX gr hi
  obtain ⟨x14,hx14,r14⟩:=o.LY gr hi
  rw [show eF [] [] []=some [] from rfl]
  simp only [bindO_some,e0,e1,e5,hx12,hx14]
  rw [show eF [(.str [])] [(0,1)] [.str s]=some [.str s] from rfl]
  simp only [bindO_some]
  have hx1:bT h (ag.alloc (ag.alloc h (.cells [])) (.cells [.str s])):=(bT.alloc _ _).trans (bT.alloc _ _)
  have g0:(ag.alloc (ag.alloc h (.cells [])) (.cells [.str s])).get h.next=some (.cells []):=by
   rw [ag.aW,ag.next_alloc,if_neg (by omega)];exact aC _ _
  have g1:(ag.alloc (ag.alloc h (.cells [])) (.cells [.str s])).get (h.next+1)=some (.cells [.str s]):=aC _ _
  have gn:(ag.alloc (ag.alloc h (.cells [])) (.cells [.str s])).next=h.next+2:=rfl
  rw [ag.next_alloc]
  generalize (ag.alloc (ag.alloc h (.cells [])) (.cells [.str s]))=H at hx1 g0 g1 gn ⊢
  have o0:Own encS 1 h.next H (.slice h.next 0 0 1) ([]:List bI):=.row h.next [] (Nat.le_refl _) (by omega) g0
  have hm:cX=140737488355328:=rfl
  have lt:(l.take i).length=i:=by rw [List.length_take,Nat.min_eq_left hi]
  have ld:(l.drop i).length=l.length-i:=List.length_drop
  obtain ⟨a1,h1,p1,o1,f1,n1,_⟩:=o0.append gr mD (r12 H hx1) (by omega) (bytes:=16) (by rw [hm,lt,List.length_nil];omega)
  simp only [p1,bindO2_some]
  have q1:h1.get (h.next+1)=some (.cells [.str s]):=by rw [f1 _ (by omega) (by simp [dV])];exact g1
  have rs:Row encS 1 h1 (.slice (h.next+1) 0 1 1) [s]:=⟨rfl,by simp [fT,q1,encS]⟩
  have e1x:bT h h1:=⟨by have:=hx1.next;omega,fun c hc=>by rw [f1 c (by omega) (by simp [dV];omega)];exact hx1.get c hc⟩
  obtain ⟨a2,h2,p2,o2,f2,n2,_⟩:=o1.append gr mD rs (by omega) (bytes:=16) (by rw [hm,List.nil_append,lt];simp;omega)
  simp only [p2,bindO2_some]
  have e2x:bT h h2:=⟨by have:=e1x.next;omega,fun c hc=>by rw [f2 c (by have:=e1x.next;omega) (fun hb=>by have:=o1.ge hb;omega)];exact e1x.get c hc⟩
  obtain ⟨a3,h3,p3,o3,f3,n3,_⟩:=o2.append gr mD (r14 h2 e2x) (by have:=e2x.next;omega) (bytes:=16) (by rw [hm,ld,List.nil_append,List.length_append,lt];simp;omega)
  simp only [p3,bindO2_some]
  have e3x:bT h h3:=⟨by have:=e2x.next;omega,fun c hc=>by rw [f3 c (by have:=e2x.next;omega) (fun hb=>by have:=o2.ge hb;omega)];exact e2x.get c hc⟩
  refine hK a3 h3 e3x ?_
  rw [he]
  have:=o3.weak hk
  rw [List.nil_append,List.append_assoc] at this
  exact this
 have get:∀ (i:Nat) (x:bI),l[i]?=some x→∃ b,(∀ q:IntKind,cL 1 a (.int q (i:Int))=some (.ptr b (i*1)))∧ai none (.ptr b (i*1)) h=some (.str x):=fun i x hx=>by
  obtain ⟨b,_,_,h3,_,h5⟩:=o.get gr hx
  exact ⟨b,h3,by have:=h5 0 (by omega);rw [Nat.add_zero] at this;rw [this];rfl⟩
 refine aB 0 l.length (Nat.zero_le _) (fun i e h'=>h'=h∧e 0=a∧e 1 = .str s∧e 5 = .int .i64 (i:Int)∧eE l s=l.take i++eE (l.drop i) s) ⟨rfl,rfl,rfl,rfl,rfl⟩ ?_ ?_
 ·rintro i e h' _ hi ⟨rfl,e0,e1,e5,ht⟩ K' hn hx hr hp
  have hv:l[i]?=some l[i]:=List.getElem?_eq_getElem hi
  generalize l[i]=x at hv
  obtain ⟨b,g1,g2⟩:=get i x hv
  rw [Ea hv] at ht
  rw [F.dI.aN]
  simp only [e0,e1,e5,o.len,aV,Nat.reduceAdd,Nat.reduceEqDiff,reduceIte,aY hi,g1,g2,LZ]
  cases hlt:strLt x s with
  |true=>
   rw [if_pos hlt] at ht
   simp only [aI,aE hi hbig,bindO_some]
   exact hn _ _ ⟨rfl,e0,e1,rfl,ht⟩
  |false=>
   rw [if_neg (by rw [hlt];decide)] at ht
   simp only [aG]
   rw [hx,F.dI.aD]
   simp only [aV,Nat.reduceAdd,Nat.reduceEqDiff,reduceIte,e0,e1,e5,o.len,aY hi,g1,g2,aI,mW]
   by_cases hxs:x=s
   ·rw [if_pos hxs] at ht
    simp only [decide_eq_true hxs,aI]
    exact hK _ _ (bT.refl _) (by rw [ht];exact o)
   ·rw [if_neg hxs] at ht
    simp only [decide_eq_false hxs,aG]
    have:=app i (Nat.le_of_lt hi) ht e e0 e1 e5
    simp only [e0,e1,e5] at this
    exact this
 ·rintro e h' ⟨rfl,e0,e1,e5,ht⟩ K' hx
  rw [F.dI.aN]
  simp only [e0,e5,o.len,aV,Nat.reduceAdd,Nat.reduceEqDiff,reduceIte,aR]
  rw [hx,F.dI.aD]
  simp only [aV,Nat.reduceAdd,Nat.reduceEqDiff,reduceIte,e0,e1,e5,o.len,aR,aG]
  have:=app l.length (Nat.le_refl _) (by rw [ht,List.drop_of_length_le (Nat.le_refl _)];rfl) e e0 e1 e5
  simp only [e0,e1,e5] at this
  exact this
structure iU (es:List Entry) (ck:Nat):Prop where
 nodup:(es.map (·.2.2)).Nodup
 lt:∀ e ∈ es,e.2.2<ck
theorem iU.nil(ck:Nat):iU [] ck:=⟨List.nodup_nil,fun _ h=>by cases h⟩
theorem iU.push{es:List Entry}{ck:Nat}(b:iU es ck)(k v:AV):iU (es++[(k,v,ck)]) (ck+1):=by
 refine ⟨?_,fun e he=>?_⟩
 ·rw [List.map_append,List.nodup_append]
  refine ⟨b.nodup,by simp,fun a ha c hc=>?_⟩
  rw [List.mem_map] at ha
  obtain ⟨e,he,rfl⟩:=ha
  have:=b.lt e he
  simp at hc
  omega
 ·rw [List.mem_append] at he
  rcases he with he|he
  ·have:=b.lt e he;omega
  ·simp at he;rw [he];exact Nat.lt_succ_self _
theorem Eb(es:List Entry)(i:Nat)(v:AV):(eO es i v).map (·.2.2)=es.map (·.2.2):=by
 unfold eO
 cases h:es[i]? with
 |none=>rfl
 |some e=>
  simp only [List.map_set]
  apply List.ext_getElem?
  intro j
  by_cases hj:i=j
  ·subst hj
   have hi:=(List.getElem?_eq_some_iff.1 h).1
   rw [List.getElem?_set_self (by simpa using hi),List.getElem?_map,h];rfl
  ·rw [List.getElem?_set_ne hj]
theorem iU.set{es:List Entry}{ck:Nat}(b:iU es ck)(i:Nat)(v:AV):iU (eO es i v) ck:=by
 refine ⟨by rw [Eb];exact b.nodup,fun e he=>?_⟩
 have:e.2.2 ∈ (eO es i v).map (·.2.2):=List.mem_map_of_mem he
 rw [Eb,List.mem_map] at this
 obtain ⟨e',he',h⟩:=this
 rw [← h];exact b.lt e' he'
theorem rZ{d:TypeDesc}{b:Nat}{h h':ag}{es es':List Entry}{ck ck':Nat}{k v:AV}(hb:h.get b=some (.map es ck))(hB:iU es ck)(hu:ew d (.map b) k v h=some h')(hg:h'.get b=some (.map es' ck')):iU es' ck':=by
 simp only [ew,hb] at hu
 split at hu
 ·cases hu
  rw [ag.aO,if_pos rfl] at hg
  cases hg
  exact hB.set _ _
 ·cases hu
  rw [ag.aO,if_pos rfl] at hg
  cases hg
  exact hB.push k v
 ·cases hu
abbrev kB:=List (bI×AV)
def kB.find(m:kB)(k:bI):Option AV:=(List.find? (fun p=>k==p.1) m).map (·.2)
def kB.ov:kB→bI→AV→kB
 |[],k,v=>[(k,v)]
 |p :: m,k,v=>if k==p.1 then (p.1,v) :: m else p :: kB.ov m k v
def qh:List Entry→kB→Prop
 |[],[]=>True
 |e :: es,p :: m=>e.1 = .str p.1∧e.2.1=p.2∧qh es m
 |_,_=>False
theorem qh.iE{k:bI}:∀ {es:List Entry} {m:kB} (i:Nat),qh es m→∃ r,iE .string (.str k) es i=some r∧match r with
  |none=>m.find k=none
  |some (j,v)=>∃ n,j=i+n∧m.find k=some v∧∀ w,qh (eO es n w) (m.ov k w)
 |[],[],i,_=>⟨none,rfl,rfl⟩
 |e :: es,p :: m,i,⟨h1,h2,h3⟩=>by
  obtain ⟨ek,ev,en⟩:=e
  simp only at h1 h2
  subst h1;subst h2
  by_cases hk:k=p.1
  ·subst hk
   refine ⟨some (i,p.2),by simp [Go.AM.iE,rS],0,rfl,by simp [kB.find],fun w=>?_⟩
   simp [eO,qh,kB.ov,h3]
  ·obtain ⟨r,hr,hm⟩:=qh.iE (k:=k) (i+1) h3
   have hkb:(k==p.1)=false:=by simpa using hk
   refine ⟨r,by simp only [Go.AM.iE,rS,hkb,hr],?_⟩
   cases r with
   |none=>simpa [kB.find,hk] using hm
   |some jv=>
    obtain ⟨n,a,b,e⟩:=hm
    refine ⟨n+1,by omega,by simpa [kB.find,hk] using b,fun w=>?_⟩
    have:=e w
    simp only [eO,List.getElem?_cons_succ,kB.ov,hkb] at this ⊢
    split at this<;>simp_all [qh]
theorem qh.append{es:List Entry}{m:kB}(h:qh es m){k:bI}(hk:m.find k=none)(v:AV)(n:Nat):qh (es++[(.str k,v,n)]) (m.ov k v):=by
 induction es generalizing m with
 |nil=>cases m with
  |nil=>simp [qh,kB.ov]
  |cons p m=>exact h.elim
 |cons e es ih=>cases m with
  |nil=>exact h.elim
  |cons p m=>
   obtain ⟨h1,h2,h3⟩:=h
   have hne:k≠p.1:=fun e=>by subst e;simp [kB.find] at hk
   have hk':kB.find m k=none:=by simpa [kB.find,hne] using hk
   have:=ih h3 hk'
   simp only [List.cons_append,kB.ov]
   rw [if_neg (by simpa using hne)]
   exact ⟨h1,h2,this⟩
theorem qi{k:Nat}{h:ag}{a:AV}{l:List bI}(o:Own encS 1 k h a l){i:Nat}{x:bI}(hx:l[i]?=some x) :
  ∃ b,b<h.next∧(∀ q:IntKind,cL 1 a (.int q (i:Int))=some (.ptr b (i*1)))∧ai none (.ptr b (i*1)) h=some (.str x):=by
 obtain ⟨b,_,h2,h3,_,h5⟩:=o.get gr hx
 exact ⟨b,h2,h3,by have:=h5 0 (by omega);rw [Nat.add_zero] at this;rw [this];rfl⟩
theorem qj{α:Type}{p:α→Bool}{l:List α}{i:Nat}{a:α}(ha:l[i]?=some a)(ht:(l.take i).any p=false)(hp:p a=false):(l.take (i+1)).any p=false:=by
 rw [List.take_add_one,ha];simp [ht,hp]
theorem cR{k:Nat}{h:ag}{a:AV}{l:List bI}{s:bI}(o:Own encS 1 k h a l)(hl:l.length≤cz){K:Out→ag→Bool}(hK:K (.ret (.bool (l.any fun x=>x==s))) h=true):Sem Tryz.prog 73 [a,.str s] h K:=by
 refine F.oS ?_
 refine aB 0 l.length (Nat.zero_le _) (fun i e h'=>h'=h∧e 0=a∧e 1 = .str s∧e 5 = .int .i64 (i:Int)∧((l.take i).any fun x=>x==s)=false) ⟨rfl,rfl,rfl,rfl,rfl⟩ ?_ ?_
 ·rintro i e h' _ hi ⟨rfl,e0,e1,e5,ht⟩ K' hn hx hr hp
  have hv:l[i]?=some l[i]:=List.getElem?_eq_getElem hi
  generalize l[i]=x at hv
  obtain ⟨b,_,g1,g2⟩:=qi o hv
  rw [F.cR.aN]
  simp only [e0,e1,e5,o.len,aV,Nat.reduceAdd,Nat.reduceEqDiff,reduceIte,aY hi,g1,g2]
  cases hq:x==s with
  |true=>
   simp only [aI]
   rw [hr,F.cR.bq]
   simp only [bu,Nat.reduceEqDiff,reduceIte]
   rw [List.any_eq_true.2 ⟨x,List.mem_of_getElem? hv,hq⟩] at hK
   exact hK
  |false=>
   simp only [aG,aE hi hl,bindO_some]
   exact hn _ _ ⟨rfl,e0,e1,rfl,qj hv ht hq⟩
 ·rintro e h' ⟨rfl,e0,e1,e5,ht⟩ K' hx
  rw [F.cR.aN]
  simp only [e0,e5,o.len,aV,Nat.reduceAdd,Nat.reduceEqDiff,reduceIte,aR]
  rw [hx,F.cR.aD]
  rw [List.take_of_length_le (Nat.le_refl _)] at ht
  rw [ht] at hK;exact hK
theorem Own.push{α:Type}{enc:α→List AV}{sz k:Nat}{h:ag}{a:AV}{l:List α}(o:Own enc sz k h a l)(he:∀ x,(enc x).length=sz)(h1:∀ x,bL (enc x)=true)(hk:k≤h.next){bytes:Nat}(hroom:(l.length+1)*bytes≤cX)(v:α) :
  ∃ a' h',bW sz bytes a (.slice h.next 0 1 sz) (h.alloc (.cells (enc v)))=some (a',h')∧Own enc sz k h' a' (l++[v])∧(∀ c,c<h.next→dV a≠some c→h'.get c=h.get c)∧h.next≤h'.next∧(∀ h0,bT h0 h→h0.next≤k→bT h0 h')∧∀ c,dV a'=some c→h.next≤c:=by
 have g:=aC h (.cells (enc v))
 have hn:(h.alloc (.cells (enc v))).next=h.next+1:=ag.next_alloc h _
 have hx:bT h (h.alloc (.cells (enc v))):=bT.alloc _ _
 have r:Row enc sz (h.alloc (.cells (enc v))) (.slice h.next 0 1 sz) [v]:=by
  refine ⟨rfl,?_⟩
  have hl:(enc v).length=sz:=he v
  simp only [fT,g,if_true,List.length_singleton,Nat.one_mul,Nat.zero_add,hl,Nat.le_refl,List.drop_zero]
  rw [← hl,List.take_length];simp
 obtain ⟨a',h',p,o',f,n,hf⟩:=(o.ext hx).append he h1 r (by omega) (bytes:=bytes) (by simpa using hroom)
 have f':∀ c,c<h.next→dV a≠some c→h'.get c=h.get c:=fun c hc hb=>by rw [f c (by omega) hb];exact hx.get c hc
 refine ⟨a',h',p,o',f',by omega,fun h0 e0 hk0=>⟨by have:=e0.next;omega,fun c hc=>?_⟩,fun c hc=>by have:=hf (by simp) c hc;omega⟩
 rw [f' c (by have:=e0.next;omega) (fun hb=>by have:=o.ge hb;omega)]
 exact e0.get c hc
def lf(y:bI×Int):List AV:=[.str y.1,.int .i64 y.2]
theorem mE(y:bI×Int):(lf y).length=2:=rfl
theorem Jh(s:bI)(n:Int):gQ [.str [],.int .i64 0] [(0,1),(1,1)] [.str s,.int .i64 n]=some (.agg (lf (s,n))):=rfl
theorem Ji(y:bI×Int):eF [.str [],.int .i64 0] [(0,2)] [.agg (lf y)]=some (lf y):=rfl
theorem Own.Bb{α:Type}{enc:α→List AV}{sz k:Nat}{h:ag}{a:AV}{l:List α}(o:Own enc sz k h a l)(hf:∀ v,∀ x ∈ enc v,Fz true h x x):∃ x:Sl α,x.l=l∧Fz true h a (an enc sz x):=by
 cases o with
 |nil=>exact ⟨none,rfl,.cU rfl⟩
 |row b l h1 h2 h3=>
  refine ⟨some l,rfl,.slice b 0 l.length sz _ _ h3 rfl fun i x y hx hy=>?_⟩
  rw [hx] at hy
  cases hy
  have:=List.mem_of_getElem? hx
  rw [List.mem_flatMap] at this
  obtain ⟨v,hv,hxv⟩:=this
  exact hf v x hxv
theorem Own.lp{α:Type}{enc:α→List AV}{sz k:Nat}{h:ag}{a:AV}{l:List α}(o:Own enc sz k h a l){d:Nat}(hd:d<k)(x:jl):Own enc sz k (h.set d x) a l:=by
 cases o with
 |nil=>exact .nil
 |row b _ w1 w2 w3=>exact .row b l w1 (by rw [ag.next_set];exact w2) (by rw [ag.aO,if_neg (by omega)];exact w3)
theorem rz(m:dN)(k j:bI)(v:Int):(m.ov k v).find j=if j=k then some v else m.find j:=by
 induction m with
 |nil=>
  simp only [dN.ov,dN.find,List.find?_cons,List.find?_nil]
  by_cases h:j=k
  ·subst h;simp
  ·have:(j==k)=false:=by simpa using h
   rw [this,if_neg h]
 |cons p m ih=>
  simp only [dN.ov]
  by_cases hk:k=p.1
  ·rw [if_pos (by simpa using hk)]
   subst hk
   simp only [dN.find,List.find?_cons]
   by_cases h:j=p.1
   ·subst h;simp
   ·have:(j==p.1)=false:=by simpa using h
    rw [this,if_neg h]
  ·rw [if_neg (by simpa using hk)]
   simp only [dN.find,List.find?_cons] at ih ⊢
   by_cases h:j=p.1
   ·subst h
    simp only [beq_self_eq_true,Option.map_some]
    rw [if_neg (Ne.symm hk)]
   ·have:(j==p.1)=false:=by simpa using h
    rw [this]
    exact ih
theorem Ec(m:dN)(k:bI)(v:Int):(m.ov k v).map (·.1)=if k ∈ m.map (·.1) then m.map (·.1) else m.map (·.1)++[k]:=by
 induction m with
 |nil=>simp [dN.ov]
 |cons p m ih=>
  simp only [dN.ov]
  by_cases hk:k=p.1
  ·rw [if_pos (by simpa using hk)]
   subst hk;simp
  ·rw [if_neg (by simpa using hk),List.map_cons,ih]
   by_cases hm:k ∈ m.map (·.1)
   ·rw [if_pos hm,if_pos (by rw [List.map_cons];exact List.mem_cons_of_mem _ hm)];rfl
   ·rw [if_neg hm,if_neg (by rw [List.map_cons,List.mem_cons];exact fun h=>h.elim hk hm)];rfl
theorem BN{m:dN}(hm:(m.map (·.1)).Nodup)(k:bI)(v:Int):((m.ov k v).map (·.1)).Nodup:=by
 rw [Ec]
 split
 ·exact hm
 ·rename_i h
  rw [List.nodup_append]
  exact ⟨hm,by simp,fun a ha b hb=>by simp at hb;subst hb;exact fun e=>h (e▸ha)⟩
theorem nF{m:dN}{k:bI}{v:Int}(h:m.find k=some v):(k,v) ∈ m:=by
 unfold dN.find at h
 obtain ⟨p,hp,rfl⟩:=Option.map_eq_some_iff.1 h
 have h1:=List.mem_of_find?_eq_some hp
 have h2:=List.find?_some hp
 simp only [beq_iff_eq] at h2
 subst h2;exact h1
theorem rA{m:dN}(hm:(m.map (·.1)).Nodup){p:bI×Int}(hp:p ∈ m):m.find p.1=some p.2:=by
 induction m with
 |nil=>cases hp
 |cons q m ih=>
  rw [List.map_cons,List.nodup_cons] at hm
  simp only [dN.find,List.find?_cons]
  rcases List.mem_cons.1 hp with rfl|hp
  ·simp
  ·have:(p.1==q.1)=false:=by
    simp only [beq_eq_false_iff_ne]
    exact fun e=>hm.1 (e▸List.mem_map_of_mem hp)
   rw [this]
   exact ih hm.2 hp
theorem jd.mem:∀ {es:List Entry} {m:dN},jd es m→∀ e ∈ es,∃ p ∈ m,e.1 = .str p.1∧e.2.1 = .int .i64 p.2
 |[],_,_,e,he=>by cases he
 |e0 :: es,[],h,_,_=>h.elim
 |e0 :: es,p :: m,⟨h1,h2,h3⟩,e,he=>by
  rcases List.mem_cons.1 he with rfl|he
  ·exact ⟨p,List.mem_cons_self,h1,h2⟩
  ·obtain ⟨q,hq,r⟩:=jd.mem h3 e he
   exact ⟨q,List.mem_cons_of_mem _ hq,r⟩
theorem kC{h:ag}{z v:AV}(h1:v.dK = [v])(hv:bL [v]=true):∃ h',bg 1 (.ptr h.next 0) v (h.alloc (.cells [z]))=some h'∧h'.get h.next=some (.cells [v])∧(∀ b,b≠h.next→h'.get b=h.get b)∧h'.next=h.next+1:=by
 refine ⟨_,by rw [cZ (n:=1) (aC _ _) (by rw [h1];rfl) (by rw [h1];exact hv) (by simp),h1],?_,fun b hb=>?_,by rw [ag.next_set,ag.next_alloc]⟩
 ·rw [ag.aO,if_pos rfl];rfl
 ·rw [ag.aO,if_neg hb,ag.aW,if_neg hb]
theorem oF{x s:bI}:∀ {l:List bI},x ∈ eE l s↔x ∈ l∨x=s
 |[]=>by simp [eE]
 |a :: l=>by
  rw [eE]
  split
  ·rw [List.mem_cons,oF (l:=l),List.mem_cons,or_assoc]
  ·split
   ·rename_i h;subst h
    rw [List.mem_cons]
    exact ⟨fun h=>.inl h,fun h=>h.elim id .inl⟩
   ·rw [List.mem_cons];exact Or.comm
theorem Fz.FH{old:Bool}{h:ag}{v r:AV}(hr:r.scalar=true)(hf:Fz old h v r):v=r:=by
 cases hf<;>first|rfl|(simp [AV.scalar] at hr)
theorem Sem.Ed{P:Program}{f:FuncId}{args args':List AV}{r:AV}{h:ag}{K:Out→ag→Bool}(hr:r.scalar=true)(hs:Sem P f args' ag.empty (mu r))(hp:iQ true h args args')(hK:K (.ret r) h=true):Sem P f args h K:=
 hs.Ks hp fun o h' ho=>by
  obtain ⟨v,rfl,hf⟩:=cw.1 ho
  obtain rfl:=hf.FH hr
  exact ⟨_,_,rfl,.scalar _ hr,hK⟩
theorem lN{old:Bool}{d:List Int}{h:ag}{b:Nat}(hb:h.get b=some (.cells (d.map iv))):Fz old h (.slice b 0 d.length 1) (an encI 1 (some d)):=by
 refine .slice b 0 d.length 1 _ _ hb (by rw [oE]) fun i x y hx hy=>?_
 rw [oE,hy] at hx
 cases hx
 rw [← oE,List.getElem?_map] at hy
 obtain ⟨v,hv,rfl⟩:=Option.map_eq_some_iff.1 hy
 exact .scalar _ rfl
theorem Own.lt{α:Type}{enc:α→List AV}{sz k:Nat}{h:ag}{a:AV}{l:List α}(o:Own enc sz k h a l){c:Nat}(hc:dV a=some c):c<h.next:=by
 cases o with
 |nil=>cases hc
 |row b l h1 h2 h3=>cases hc;exact h2
theorem CS{α:Type}[BEq α][LawfulBEq α]{l m:List α}{i:Nat}{a b:α}(ha:l[i]?=some a)(hb:m[i]?=some b):(l.drop i==m.drop i)=((a==b)&&(l.drop (i+1)==m.drop (i+1))):=by
 have h1:=(List.getElem?_eq_some_iff.1 ha).1
 have h2:=(List.getElem?_eq_some_iff.1 hb).1
 rw [List.drop_eq_getElem_cons h1,List.drop_eq_getElem_cons h2]
 rw [List.getElem?_eq_getElem h1] at ha
 rw [List.getElem?_eq_getElem h2] at hb
 cases ha;cases hb;rfl
theorem di{x y:Sl Int}(hx:x.l.length≤cz){h:ag}{K:Out→ag→Bool}(hK:K (.ret (.bool (x.l==y.l))) h=true):Sem Tryz.prog 35 [an encI 1 x,an encI 1 y] h K:=by
 refine F.xe ?_
 simp only [aV,Nat.reduceAdd,Nat.reduceEqDiff,reduceIte,cQ]
 by_cases hl:x.l.length=y.l.length
 ·simp only [decide_eq_true (by omega:(x.l.length:Int)=(y.l.length:Int)),Bool.not_true,aG]
  refine aB 0 x.l.length (Nat.zero_le _) (fun i e h'=>h'=h∧e 0=an encI 1 x∧e 1=an encI 1 y∧e 5 = .int .i64 (i:Int)∧(x.l==y.l)=(x.l.drop i==y.l.drop i)) ⟨rfl,rfl,rfl,rfl,rfl⟩ ?_ ?_
  ·rintro i e h' _ hi ⟨rfl,e0,e1,e5,ht⟩ K' hn hx' hr hp
   have hi2:i<y.l.length:=by omega
   have hv:x.l[i]?=some x.l[i]:=List.getElem?_eq_getElem hi
   have hw:y.l[i]?=some y.l[i]:=List.getElem?_eq_getElem hi2
   rw [CS hv hw] at ht
   generalize x.l[i]=a at hv ht
   generalize y.l[i]=b at hw ht
   rw [F.di.aN]
   simp only [e0,e1,e5,aV,Nat.reduceAdd,Nat.reduceEqDiff,reduceIte,aY hi,aP x hi,aP y hi2,fF hv,fF hw]
   cases hq:a==b with
   |false=>
    simp only [Bool.not_false,aI]
    rw [hr,F.di.bq]
    simp only [bu,Nat.reduceEqDiff,reduceIte]
    rw [ht,hq] at hK;exact hK
   |true=>
    simp only [Bool.not_true,aG,aE hi hx,bindO_some]
    exact hn _ _ ⟨rfl,e0,e1,rfl,by rw [ht,hq,Bool.true_and]⟩
  ·rintro e h' ⟨rfl,e0,e1,e5,ht⟩ K' hx'
   rw [F.di.aN]
   simp only [e0,e5,aV,Nat.reduceAdd,Nat.reduceEqDiff,reduceIte,aR]
   rw [hx',F.di.aD]
   rw [List.drop_of_length_le (Nat.le_refl _),List.drop_of_length_le (by omega)] at ht
   rw [ht] at hK;exact hK
 ·simp only [decide_eq_false (by omega:¬ (x.l.length:Int)=(y.l.length:Int)),Bool.not_false,aI]
  have:(x.l==y.l)=false:=by
   simp only [beq_eq_false_iff_ne];exact fun e=>hl (congrArg List.length e)
  rw [this] at hK;exact hK
theorem lU:∀ a:bI,strLt a a=false
 |[]=>rfl
 |x :: a=>by
  have:=lU a
  unfold strLt at this ⊢
  simp [Op.bytesLess,this]
theorem qm:∀ {a b c:bI},strLt a b=true→strLt b c=true→strLt a c=true
 |_,[],_,h,_=>by unfold strLt at h;simp [Op.bytesLess] at h
 |_,_ :: _,[],_,h=>by unfold strLt at h;simp [Op.bytesLess] at h
 |[],_ :: _,_ :: _,_,_=>rfl
 |x :: a,y :: b,z :: c,h1,h2=>by
  have ih:=@qm a b c
  unfold strLt at h1 h2 ih ⊢
  simp only [Op.bytesLess,Bool.or_eq_true,decide_eq_true_eq,Bool.and_eq_true,beq_iff_eq] at h1 h2 ⊢
  rcases h1 with h1|⟨rfl,h1⟩<;>rcases h2 with h2|⟨rfl,h2⟩
  ·exact .inl (UInt8.lt_trans h1 h2)
  ·exact .inl h1
  ·exact .inl h2
  ·exact .inr ⟨rfl,ih h1 h2⟩
theorem vG:∀ {a b:bI},strLt a b=false→a≠b→strLt b a=true
 |[],[],_,h=>absurd rfl h
 |[],_ :: _,h,_=>by unfold strLt at h;simp [Op.bytesLess] at h
 |_ :: _,[],_,_=>rfl
 |x :: a,y :: b,h1,h2=>by
  have ih:=@vG a b
  unfold strLt at h1 ih ⊢
  simp only [Op.bytesLess,Bool.or_eq_false_iff,decide_eq_false_iff_not,Bool.and_eq_false_iff,beq_eq_false_iff_ne] at h1
  simp only [Op.bytesLess,Bool.or_eq_true,decide_eq_true_eq,Bool.and_eq_true,beq_iff_eq]
  obtain ⟨h3,h4⟩:=h1
  by_cases e:x=y
  ·subst e
   rcases h4 with h4|h4
   ·exact absurd rfl h4
   ·exact .inr ⟨rfl,ih h4 (fun h=>h2 (by rw [h]))⟩
  ·refine .inl ?_
   rcases UInt8.lt_or_lt_of_ne e with h|h
   ·exact absurd h h3
   ·exact h
theorem Nb:∀ {a b:bI},leB a b=true→a≠b→strLt a b=true:=fun {a b} h hne=>by
 cases hs:strLt a b with
 |true=>rfl
 |false=>
  exfalso
  have key:∀ {a b:bI},strLt b a=true→b<a:=by
   intro a
   induction a with
   |nil=>intro b h;unfold strLt at h;cases b<;>simp [Op.bytesLess] at h
   |cons x a ih=>
    intro b h
    cases b with
    |nil=>exact List.nil_lt_cons _ _
    |cons y b=>
     unfold strLt at h
     simp only [Op.bytesLess,Bool.or_eq_true,decide_eq_true_eq,Bool.and_eq_true,beq_iff_eq] at h
     rcases h with h|⟨rfl,h⟩
     ·exact List.cons_lt_cons_iff.2 (.inl h)
     ·exact List.cons_lt_cons_iff.2 (.inr ⟨rfl,ih h⟩)
  have h1:=key (vG hs hne)
  have h2:a≤b:=of_decide_eq_true h
  exact absurd h1 (List.not_lt.2 h2)
def oT(l:List bI):Prop:=l.Pairwise fun a b=>strLt a b=true
theorem r6:∀ {l m:List bI},oT l→oT m→(∀ x,x ∈ l↔x ∈ m)→l=m
 |[],[],_,_,_=>rfl
 |[],y :: m,_,_,h=>by have:=(h y).2 List.mem_cons_self;cases this
 |x :: l,[],_,_,h=>by have:=(h x).1 List.mem_cons_self;cases this
 |x :: l,y :: m,hl,hm,h=>by
  obtain ⟨l1,l2⟩:=List.pairwise_cons.1 hl
  obtain ⟨m1,m2⟩:=List.pairwise_cons.1 hm
  have hxy:x=y:=by
   rcases List.mem_cons.1 ((h x).1 List.mem_cons_self) with e|e
   ·exact e
   ·rcases List.mem_cons.1 ((h y).2 List.mem_cons_self) with e'|e'
    ·exact e'.symm
    ·have:=qm (m1 x e) (l1 y e')
     rw [lU] at this;cases this
  subst hxy
  rw [r6 l2 m2 fun z=>?_]
  constructor
  ·intro hz
   rcases List.mem_cons.1 ((h z).1 (List.mem_cons_of_mem _ hz)) with e|e
   ·subst e;have:=l1 z hz;rw [lU] at this;cases this
   ·exact e
  ·intro hz
   rcases List.mem_cons.1 ((h z).2 (List.mem_cons_of_mem _ hz)) with e|e
   ·subst e;have:=m1 z hz;rw [lU] at this;cases this
   ·exact e
theorem r7:∀ {l:List bI},oT l→∀ s,oT (eE l s)
 |[],_,s=>List.pairwise_singleton _ _
 |x :: l,h,s=>by
  obtain ⟨h1,h2⟩:=List.pairwise_cons.1 h
  rw [eE]
  split
  ·rename_i hx
   refine List.pairwise_cons.2 ⟨fun y hy=>?_,r7 h2 s⟩
   rcases oF.1 hy with hy|rfl
   ·exact h1 y hy
   ·exact hx
  ·rename_i hx
   split
   ·exact h
   ·rename_i hne
    have hsx:strLt s x=true:=vG (by simpa using hx) hne
    refine List.pairwise_cons.2 ⟨fun y hy=>?_,h⟩
    rcases List.mem_cons.1 hy with rfl|hy
    ·exact hsx
    ·exact qm hsx (h1 y hy)
theorem BO{ck:Nat}:∀ {es:List Entry},(∀ e ∈ es,(∃ s,e.1 = .str s∧s.length≤1000)∧e.2.2<ck)→(es.map keyBytes).Nodup→(es.map (·.2.2)).Nodup→oy ck es=true
 |[],_,_,_=>rfl
 |e :: es,h,h1,h2=>by
  rw [List.map_cons,List.nodup_cons] at h1 h2
  obtain ⟨⟨s,hs,hl⟩,hc⟩:=h e List.mem_cons_self
  have ih:=BO (ck:=ck) (es:=es) (fun f hf=>h f (List.mem_cons_of_mem _ hf)) h1.2 h2.2
  have hb:Nat.ble s.length 140737488351232=true:=Nat.ble_eq_true_of_le (by omega)
  have hc':Nat.ble (e.2.2+1) ck=true:=Nat.ble_eq_true_of_le hc
  have hall:es.all (fun f=>!(keyBytes e==keyBytes f)&&!(Nat.beq e.2.2 f.2.2))=true:=by
   rw [List.all_eq_true]
   intro f hf
   have q1:(keyBytes e==keyBytes f)=false:=by
    simp only [beq_eq_false_iff_ne]
    exact fun q=>h1.1 (by rw [q];exact List.mem_map_of_mem hf)
   have q2:Nat.beq e.2.2 f.2.2=false:=by
    cases hq:Nat.beq e.2.2 f.2.2 with
    |false=>rfl
    |true=>exact absurd (by rw [Nat.eq_of_beq_eq_true hq];exact List.mem_map_of_mem hf) h2.1
   rw [q1,q2];rfl
  simp only [oy,hs,isStr,hb,hc',hall,ih,Bool.and_self]
theorem keys_map{M:Nat}{h:ag}{K:Out→ag→Bool}(hK:K (.ret (.func 114 [] [.ptr h.next 0])) (h.alloc (.box (.map M)))=true):Sem Tryz.prog 50 [.map M] h K:=
 ue.sem (f:=50) (g:=GG 114) rfl hK
theorem FI{M b:Nat}{es:List Entry}{ck:Nat}{h:ag}{K:Out→ag→Bool}(hb:h.get b=some (.box (.map M)))(hM:h.get M=some (.map es ck))(hok:oy ck es=true)(hlen:es.length≤1000000)
  (hK:∀ a h',bT h h'→Own encS 1 h.next h' a (nA (es.map keyBytes))→K (.ret a) h'=true):Sem Tryz.prog 49 [.func 114 [] [.ptr b 0]] h K:=by
 refine ue.sem (f:=49) (g:=ru 114) rfl ?_
 have hl:Nat.ble (es.length*16) 140737488355328=true:=Nat.ble_eq_true_of_le (by omega)
 have h2:ru 114 [.func 114 [] [.ptr b 0]] h K=true:=by
  simp only [ru,hb,hM,hok,hl,Bool.true_and]
  rw [show Nat.beq 114 114=true from rfl,Bool.true_and]
  generalize nA (es.map keyBytes)=ns at hK ⊢
  cases ns with
  |nil=>exact hK _ _ (bT.refl _) .nil
  |cons k ks=>
   have e:(k :: ks).map AV.str=(k :: ks).flatMap encS:=by
    generalize (k :: ks)=l
    induction l with
    |nil=>rfl
    |cons x l ih=>rw [List.map_cons,List.flatMap_cons,ih];rfl
   refine hK _ _ (bT.alloc _ _) ?_
   rw [e]
   exact .row _ (k :: ks) (Nat.le_refl _) (Nat.lt_succ_self _) (aC _ _)
 exact h2
theorem CT{l:List bI}(hn:l.Nodup):oT (nA l)∧∀ x,x ∈ nA l↔x ∈ l:=by
 refine ⟨?_,fun x=>(mA l).mem_iff⟩
 have h1:=oz l
 have h2:(nA l).Nodup:=(mA l).nodup_iff.2 hn
 unfold oT
 unfold List.Nodup at h2
 exact (h1.and h2).imp fun {a b} h=>Nb h.1 h.2
theorem qp{b:Nat}{h:ag}{es:List Entry}{ck:Nat}{m:dN}(hb:h.get b=some (.map es ck))(hm:jd es m)(k:bI) :
  dB .string (.int .i64 0) false (.map b) (.str k) h=some (.int .i64 ((m.find k).getD 0)):=by
 obtain ⟨r,hr,hm'⟩:=jd.iE (k:=k) 0 hm
 simp only [dB,jO,hb,nr,nq,if_true,hr]
 cases r with
 |none=>simp at hm';simp [hm']
 |some jv=>
  obtain ⟨n,q,_,b,c,_⟩:=hm'
  obtain ⟨j,v⟩:=jv
  simp only at c
  subst c
  simp [b]
theorem GK:∀ {es:List Entry} {m:dN},jd es m→es.map keyBytes=m.map (·.1)
 |[],[],_=>rfl
 |e :: es,p :: m,⟨h1,_,h3⟩=>by
  obtain ⟨ek,ev⟩:=e
  simp only at h1
  subst h1
  rw [List.map_cons,List.map_cons,GK h3];rfl
end
end Go.AM
namespace Go.AM
open Go Go.Proofs
noncomputable section
theorem uz{α:Type}{enc:α→List AV}{sz:Nat}(he:∀ a,(enc a).length=sz)(x:Sl α)(h:ag):Row enc sz h (an enc sz x) x.l:=by
 cases x with
 |none=>exact ⟨rfl,rfl⟩
 |some l=>
  refine ⟨rfl,?_⟩
  have hl:(l.flatMap enc).length=l.length*sz:=gq he l
  simp only [an,fT,Sl.l_some,Nat.zero_add,hl,beq_self_eq_true,Nat.le_refl,decide_true,Bool.and_self,if_true,List.drop_zero]
  rw [← hl,List.take_length]
structure eN where
 kind:Int
 neg:Bool
 name:bI
 args:Sl bI
structure aK where
 name:bI
 args:Sl bI
 body:Sl eN
def b6(c:eN):List AV:=[.int .i64 c.kind,.bool c.neg,.str c.name,an encS 1 c.args]
def gK(nm:bI)(xs:Sl bI):List AV:=[.str nm,an encS 1 xs]
def aM(r:aK):List AV:=[.str r.name,an encS 1 r.args,an b6 4 r.body]
theorem gL(c:eN):(b6 c).length=4:=rfl
theorem fe(r:aK):(aM r).length=3:=rfl
theorem zT(c:eN):AV.pureL (b6 c)=true:=by simp [b6,AV.pureL,AV.pure,bE gj]
theorem ef(r:aK):AV.pureL (aM r)=true:=by simp [aM,AV.pureL,AV.pure,bE gj,bE zT]
theorem vH(nm:bI)(xs:Sl bI):bL (gK nm xs)=true:=by
 unfold gK;simp only [bL,jc,Bool.and_true];rfl
theorem gN(c:eN):bL (b6 c)=true:=by
 unfold b6;simp only [bL,jc,Bool.and_true];rfl
theorem iz(r:aK):bL (aM r)=true:=by
 unfold aM;simp only [bL,jc,Bool.and_true];rfl
def eN.ok(c:eN):Prop:=c.name.length≤cz∧c.args.l.length≤cz∧∀ s ∈ c.args.l,s.length≤cz
def aK.ok(r:aK):Prop:=r.name.length≤cz∧r.args.l.length≤cz∧(∀ s ∈ r.args.l,s.length≤cz)∧r.body.l.length≤cz∧∀ c ∈ r.body.l,c.ok
theorem GL(a b c d:AV):ij (some 2) [a,b,c,d] 2=some (.agg [c,d]):=rfl
theorem GM(a b c:AV):ij (some 2) [a,b,c] 0=some (.agg [a,b]):=rfl
theorem CU(a b c d:AV):ij (some 4) [a,b,c,d] 0=some (.agg [a,b,c,d]):=rfl
theorem oG(a b c:AV):ij (some 3) [a,b,c] 0=some (.agg [a,b,c]):=rfl
theorem fW{x:Sl bI}{i:Nat}{v:bI}(hv:x.l[i]?=some v){h:ag}:ai none (.iptr (x.l.flatMap encS) (i*1)) h=some (.str v):=by
 rw [nZ gr hv];rfl
theorem Bc{x:Sl bI}(hx:x.l.length≤cz){g:FuncId}{a b:List AV}{h:ag}{p:bI→Bool}(hp:∀ (v:bI) (K:Out→ag→Bool),K (.ret (.bool (p v))) h=true→Sem Tryz.prog g (a++([.str v]++b)) h K)
  {K:Out→ag→Bool} (hK:∀ n:Int,decide (0≤n)=x.l.any p→K (.ret (.int .i64 n)) h=true):Sem Tryz.prog 190 [an encS 1 x,.func g a b] h K:=by
 refine F.jj ?_
 simp only [aV,Nat.reduceAdd,Nat.reduceEqDiff,reduceIte]
 refine aB 0 x.l.length (Nat.zero_le _) (fun i e h'=>h'=h∧e 0=an encS 1 x∧e 1 = .func g a b∧e 7 = .int .i64 (x.l.length:Int)∧e 8 = .int .i64 (i:Int)∧(x.l.take i).any p=false) ⟨rfl,rfl,rfl,rfl,rfl,rfl⟩ ?_ ?_
 ·rintro i e h' _ hi ⟨rfl,e0,e1,e7,e8,ht⟩ K' hn hx' hr hp'
  have hv:x.l[i]?=some x.l[i]:=List.getElem?_eq_getElem hi
  rw [F.bl.aN]
  simp only [e0,e1,e7,e8,aV,Nat.reduceAdd,Nat.reduceEqDiff,reduceIte,aY hi,aP x hi,fW hv,callV_func]
  refine ak (hp _ _ ?_)
  simp only [aV,Nat.reduceAdd,Nat.reduceEqDiff,reduceIte]
  cases hq:p x.l[i] with
  |true=>
   simp only [aI]
   rw [hr,F.bl.bq]
   refine hK (i:Int) ?_
   rw [decide_eq_true (by omega:(0:Int)≤(i:Int))]
   exact (List.any_eq_true.2 ⟨_,List.mem_of_getElem? hv,hq⟩).symm
  |false=>
   simp only [aG,aE hi hx,bindO_some]
   exact hn _ _ ⟨rfl,e0,e1,e7,rfl,by rw [List.take_add_one,hv,List.any_append,ht];simp [hq]⟩
 ·rintro e h' ⟨rfl,e0,e1,e7,e8,ht⟩ K' hx'
  rw [F.bl.aN]
  simp only [e0,e1,e7,e8,aV,Nat.reduceAdd,Nat.reduceEqDiff,reduceIte,aR]
  rw [hx',F.bl.aD]
  rw [List.take_of_length_le (Nat.le_refl _)] at ht
  exact hK (-1) (by rw [ht];rfl)
theorem vI{x:Sl bI}(hx:x.l.length≤cz){g:FuncId}{a b:List AV}{h:ag}{p:bI→Bool}(hp:∀ (v:bI) (K:Out→ag→Bool),K (.ret (.bool (p v))) h=true→Sem Tryz.prog g (a++([.str v]++b)) h K)
  {K:Out→ag→Bool} (hK:K (.ret (.bool (x.l.any p))) h=true):Sem Tryz.prog 168 [an encS 1 x,.func g a b] h K:=by
 refine F.iJ ?_
 refine ak (Bc hx hp fun n hn=>?_)
 simp only [aV,Nat.reduceAdd,Nat.reduceEqDiff,reduceIte]
 rw [hn];exact hK
theorem CV{s:bI}{h:ag}{K:Out→ag→Bool}(hK:K (.ret (.bool (!dZ s))) h=true):Sem Tryz.prog 169 [.str s] h K:=by
 refine F.vh ?_
 refine ak (dz ?_)
 simp only [aV,Nat.reduceAdd,Nat.reduceEqDiff,reduceIte]
 exact hK
theorem L7{α:Type}(p:α→Bool)(l:List α):(!(l.any fun x=>!p x))=l.all p:=by
 induction l with
 |nil=>rfl
 |cons a l ih=>rw [List.any_cons,List.all_cons,← ih];cases p a<;>simp
theorem L8{α:Type}(p:α→Bool):∀ (l:List α) (h:l.length=2),l.all p=(p (l[0]'(by omega))&&p (l[1]'(by omega)))
 |[a,b],_=>by simp
def kg(nm:bI)(xs:List bI):Bool:=dZ nm&&(decide (xs.length≤12)&&xs.all dZ)
theorem zU{nm:bI}{xs:Sl bI}(hx:xs.l.length≤cz){h:ag}{K:Out→ag→Bool}(hK:K (.ret (.bool (kg nm xs.l))) h=true):Sem Tryz.prog 130 [.agg [.str nm,an encS 1 xs]] h K:=by
 refine Sem.data (r:=.bool (kg nm xs.l)) ?_ (by simp [AV.pureL,AV.pure,bE gj]) hK
 clear hK
 refine F.zl ?_
 have g0:(ag.alloc ag.empty (.cells (gK nm xs))).get 0=some (.cells (gK nm xs)):=aC _ _
 have hb:cK (.agg [.str nm,an encS 1 xs])=some (gK nm xs):=cY (vH nm xs)
 simp only [hb,bindO_some,bG]
 generalize (ag.alloc ag.empty (.cells (gK nm xs)))=H at g0 ⊢
 have fin:∀ b:Bool,b=kg nm xs.l→mu (.bool (kg nm xs.l)) (.ret (.bool b)) H=true:=fun b hb=>by rw [hb];exact de rfl
 simp only [aV,Nat.reduceAdd,Nat.reduceEqDiff,reduceIte,au g0,gK]
 refine ak (dz ?_)
 simp only [aV,Nat.reduceAdd,Nat.reduceEqDiff,reduceIte]
 cases hn:dZ nm with
 |false=>simp only [aG];exact fin _ (by simp [kg,hn])
 |true=>
  simp only [aI,aV,Nat.reduceAdd,Nat.reduceEqDiff,reduceIte,au g0,gK]
  by_cases h12:xs.l.length≤12
  ·simp only [decide_eq_true (by omega:(xs.l.length:Int)≤12),aI,aV,Nat.reduceAdd,Nat.reduceEqDiff,reduceIte,au g0,gK]
   refine ak (vI hx (p:=fun s=>!dZ s) (fun v K hK=>CV hK) ?_)
   simp only [aV,Nat.reduceAdd,Nat.reduceEqDiff,reduceIte]
   exact fin _ (by rw [L7];simp [kg,hn,h12])
  ·simp only [decide_eq_false (by omega:¬ (xs.l.length:Int)≤12),aG]
   exact fin _ (by simp [kg,h12])
def fO(c:eN):Bool:=if c.kind=0 then kg c.name c.args.l else if c.kind=1∨c.kind=2 then decide (c.name = [])&&(decide (c.args.l.length=2)&&c.args.l.all dZ) else false
theorem eA{c:eN}(hc:c.ok){h:ag}{K:Out→ag→Bool}(hK:K (.ret (.bool (fO c))) h=true):Sem Tryz.prog 132 [.agg [.int .i64 c.kind,.bool c.neg,.str c.name,an encS 1 c.args]] h K:=by
 refine Sem.data (r:=.bool (fO c)) ?_ (by simp [AV.pureL,AV.pure,bE gj]) hK
 clear hK
 refine F.rK ?_
 have g0:(ag.alloc ag.empty (.cells (b6 c))).get 0=some (.cells (b6 c)):=aC _ _
 have hb:cK (.agg [.int .i64 c.kind,.bool c.neg,.str c.name,an encS 1 c.args])=some (b6 c):=cY (gN c)
 simp only [hb,bindO_some,bG]
 generalize (ag.alloc ag.empty (.cells (b6 c)))=H at g0 ⊢
 have fin:∀ b:Bool,b=fO c→mu (.bool (fO c)) (.ret (.bool b)) H=true:=fun b hb=>by rw [hb];exact de rfl
 generalize mu (.bool (fO c))=R at fin ⊢
 simp only [aV,Nat.reduceAdd,Nat.reduceEqDiff,reduceIte,au g0,b6,cQ,GL]
 by_cases k0:c.kind=0
 ·simp only [decide_eq_true k0,aI]
  refine ak (zU hc.2.1 ?_)
  simp only [aV,Nat.reduceAdd,Nat.reduceEqDiff,reduceIte]
  exact fin _ (by simp [fO,k0])
 simp only [decide_eq_false k0,aG]
 have J:∀ (e:Env) (b:Bool),e 1 = .ptr 0 0→e 10 = .bool b→(b=true↔(c.kind=1∨c.kind=2))→F.eA.J0 R ⟨e,40,[],H⟩=true:=by
  intro e b e1 e10 hb
  rw [F.eA.zm]
  simp only [e1,e10,aV,Nat.reduceAdd,Nat.reduceEqDiff,reduceIte]
  cases b with
  |false=>
   simp only [aG]
   have:¬ (c.kind=1∨c.kind=2):=fun h=>by have:=hb.2 h;cases this
   exact fin _ (by simp [fO,k0,this])
  |true=>
   have hk:=hb.1 rfl
   have hc1:fO c=(decide (c.name = [])&&(decide (c.args.l.length=2)&&c.args.l.all dZ)):=by simp only [fO,if_neg k0,if_pos hk]
   rw [hc1] at fin
   simp only [aI,aV,Nat.reduceAdd,Nat.reduceEqDiff,reduceIte,au g0,b6,mW]
   by_cases hn:c.name = []
   ·simp only [decide_eq_true hn,aI,aV,Nat.reduceAdd,Nat.reduceEqDiff,reduceIte,au g0,b6,cQ]
    by_cases h2:c.args.l.length=2
    ·simp only [decide_eq_true (by omega:(c.args.l.length:Int)=2),aI,aV,Nat.reduceAdd,Nat.reduceEqDiff,reduceIte,au g0,b6]
     have v0:c.args.l[0]?=some c.args.l[0]:=List.getElem?_eq_getElem (by omega)
     have v1:c.args.l[1]?=some c.args.l[1]:=List.getElem?_eq_getElem (by omega)
     have hall:c.args.l.all dZ=(dZ c.args.l[0]&&dZ c.args.l[1]):=L8 dZ _ h2
     have i0:=aP (enc:=encS) (sz:=1) (k:=.i64) c.args (i:=0) (by omega)
     have i1:=aP (enc:=encS) (sz:=1) (k:=.i64) c.args (i:=1) (by omega)
     have l0:=fun h=>fW (x:=c.args) v0 (h:=h)
     have l1:=fun h=>fW (x:=c.args) v1 (h:=h)
     simp only [show ((0:Nat):Int)=0 from rfl,show ((1:Nat):Int)=1 from rfl] at i0 i1
     simp only [i0,i1,l0,l1,aV,Nat.reduceAdd,Nat.reduceEqDiff,reduceIte]
     refine ak (dz ?_)
     simp only [aV,Nat.reduceAdd,Nat.reduceEqDiff,reduceIte]
     rw [hall] at fin
     cases n0:dZ c.args.l[0] with
     |false=>simp only [aG];exact fin _ (by simp [n0])
     |true=>
      simp only [aI,aV,Nat.reduceAdd,Nat.reduceEqDiff,reduceIte,au g0,b6,i0,i1,l0,l1]
      refine ak (dz ?_)
      simp only [aV,Nat.reduceAdd,Nat.reduceEqDiff,reduceIte]
      exact fin _ (by simp [n0,hn,h2])
    ·simp only [decide_eq_false (by omega:¬ (c.args.l.length:Int)=2),aG]
     exact fin _ (by simp [h2])
   ·simp only [decide_eq_false hn,aG]
    exact fin _ (by simp [hn])
 by_cases k1:c.kind=1
 ·simp only [decide_eq_true k1,aI]
  exact J _ true rfl rfl (by simp [k1])
 ·simp only [decide_eq_false k1,aG]
  exact J _ (decide (c.kind=2)) rfl rfl (by simp [k1])
end
end Go.AM
namespace Go.AM
open Go Go.Proofs
noncomputable section
theorem HF{k:Nat}{h:ag}{a:AV}{l:List bI}{s:bI}(o:Own encS 1 k h a l)(hl:l.length≤cz){K:Out→ag→Bool}
  (hK:∀ n:Int,decide (0≤n)=(l.any fun x=>s==x)→K (.ret (.int .i64 n)) h=true):Sem Tryz.prog 157 [a,.str s] h K:=by
 refine F.gu ?_
 simp only [o.len,aV,Nat.reduceAdd,Nat.reduceEqDiff,reduceIte]
 refine aB 0 l.length (Nat.zero_le _) (fun i e h'=>h'=h∧e 0=a∧e 1 = .str s∧e 7 = .int .i64 (l.length:Int)∧e 8 = .int .i64 (i:Int)∧((l.take i).any fun x=>s==x)=false) ⟨rfl,rfl,rfl,rfl,rfl,rfl⟩ ?_ ?_
 ·rintro i e h' _ hi ⟨rfl,e0,e1,e7,e8,ht⟩ K' hn hx' hr hp'
  have hv:l[i]?=some l[i]:=List.getElem?_eq_getElem hi
  generalize l[i]=x at hv
  obtain ⟨b,_,g1,g2⟩:=qi o hv
  rw [F.bp.aN]
  simp only [e0,e1,e7,e8,aV,Nat.reduceAdd,Nat.reduceEqDiff,reduceIte,aY hi,g1,g2]
  cases hq:s==x with
  |true=>
   simp only [aI]
   rw [hr,F.bp.bq]
   refine hK (i:Int) ?_
   rw [decide_eq_true (by omega:(0:Int)≤(i:Int))]
   exact (List.any_eq_true.2 ⟨_,List.mem_of_getElem? hv,hq⟩).symm
  |false=>
   simp only [aG,aE hi hl,bindO_some]
   exact hn _ _ ⟨rfl,e0,e1,e7,rfl,qj hv ht hq⟩
 ·rintro e h' ⟨rfl,e0,e1,e7,e8,ht⟩ K' hx'
  rw [F.bp.aN]
  simp only [e0,e1,e7,e8,aV,Nat.reduceAdd,Nat.reduceEqDiff,reduceIte,aR]
  rw [hx',F.bp.aD]
  rw [List.take_of_length_le (Nat.le_refl _)] at ht
  exact hK (-1) (by rw [ht];rfl)
theorem CW{k:Nat}{h:ag}{a:AV}{l:List bI}{s:bI}(o:Own encS 1 k h a l)(hl:l.length≤cz){K:Out→ag→Bool}
  (hK:K (.ret (.bool (l.any fun x=>s==x))) h=true):Sem Tryz.prog 155 [a,.str s] h K:=by
 refine F.jt ?_
 refine ak (HF o hl fun n hn=>?_)
 simp only [aV,Nat.reduceAdd,Nat.reduceEqDiff,reduceIte]
 rw [hn];exact hK
def vJ(o:List bI)(s:bI):List bI:=if (o.any fun x=>s==x)=true then o else o++[s]
def ey(o l:List bI):List bI:=l.foldl vJ o
theorem wJ{o l:List bI}{i:Nat}{s:bI}(hs:l[i]?=some s):ey o (l.take (i+1))=vJ (ey o (l.take i)) s:=by
 unfold ey;rw [List.take_add_one,hs];simp
theorem Jj(o:List bI)(s:bI):(vJ o s).length≤o.length+1:=by
 unfold vJ;split<;>simp
theorem mF:∀ (l o:List bI),(ey o l).length≤o.length+l.length
 |[],o=>Nat.le_refl _
 |s :: l,o=>by
  have h1:=mF l (vJ o s)
  have h2:=Jj o s
  show (ey (vJ o s) l).length≤_
  rw [List.length_cons];omega
theorem qq{α:Type}{enc:α→List AV}{sz k:Nat}{h:ag}{a:AV}{l:List α}(o:Own enc sz k h a l):a.dK = [a]∧bL [a]=true:=by
 cases o<;>exact ⟨rfl,rfl⟩
theorem HG{α:Type}{enc:α→List AV}{sz k:Nat}{h:ag}{a b:AV}{l:List α}{V:Nat}(o:Own enc sz k h a l)(hV:h.get V=some (.cells [b])):bg 1 (.ptr V 0) a h=some (h.set V (.cells [a])):=by
 obtain ⟨h1,h2⟩:=qq o
 rw [cZ (n:=1) hV (by rw [h1];rfl) (by rw [h1];exact h2) (by simp),h1];rfl
theorem MJ(s:bI):eF [.str []] [(0,1)] [.str s]=some (encS s):=rfl
theorem wK{V k:Nat}{h:ag}{a:AV}{l:List bI}{xs:Sl bI}(hV:h.get V=some (.cells [a]))(hVk:V<k)(o:Own encS 1 k h a l)(hk:k≤h.next)(hlen:l.length+xs.l.length≤100000000){K:Out→ag→Bool}
  (hK:∀ a' h',h'.get V=some (.cells [a'])→Own encS 1 k h' a' (ey l xs.l)→(∀ c,c<k→c≠V→h'.get c=h.get c)→h.next≤h'.next→K (.ret (.tuple [])) h'=true):Sem Tryz.prog 154 [an encS 1 xs,.ptr V 0] h K:=by
 refine F.oX ?_
 simp only [aV,Nat.reduceAdd,Nat.reduceEqDiff,reduceIte]
 refine aB 0 xs.l.length (Nat.zero_le _) (fun i e h'=>∃ a',h'.get V=some (.cells [a'])∧Own encS 1 k h' a' (ey l (xs.l.take i))∧(∀ c,c<k→c≠V→h'.get c=h.get c)∧h.next≤h'.next ∧
  e 1 = .ptr V 0∧e 5=an encS 1 xs∧e 6 = .int .i64 (xs.l.length:Int)∧e 7 = .int .i64 (i:Int)) ⟨a,hV,by simpa [ey] using o,fun _ _ _=>rfl,Nat.le_refl _,rfl,rfl,rfl,rfl⟩ ?_ ?_
 ·rintro i e h' _ hi ⟨a',gV,o',fr,hn',e1,e5,e6,e7⟩ K' hn hx hr hp
  have hv:xs.l[i]?=some xs.l[i]:=List.getElem?_eq_getElem hi
  generalize xs.l[i]=s at hv
  have hlb:(ey l (xs.l.take i)).length≤100000000:=by
   have h1:=mF (xs.l.take i) l
   have h2:=List.length_take_le i xs.l
   omega
  rw [F.cV.aN]
  simp only [e1,e5,e6,e7,aV,Nat.reduceAdd,Nat.reduceEqDiff,reduceIte,aY hi,aP xs hi,fW hv,au gV]
  refine ak (CW o' (by unfold cz;omega) ?_)
  simp only [aV,Nat.reduceAdd,Nat.reduceEqDiff,reduceIte]
  have hstep:=wJ (o:=l) hv
  unfold vJ at hstep
  cases hq:(ey l (xs.l.take i)).any fun x=>s==x with
  |true=>
   rw [hq,if_pos rfl] at hstep
   simp only [Bool.not_true,aG,aE hi (show xs.l.length≤cz by unfold cz;omega),bindO_some]
   exact hn _ _ ⟨a',gV,by rw [hstep];exact o',fr,hn',e1,e5,e6,rfl⟩
  |false=>
   rw [hq,if_neg (by simp)] at hstep
   obtain ⟨a2,h2,p1,p2,p3,p4,p5,p6⟩:=o'.push gr mD (by omega) (bytes:=16) (by unfold cX;omega) s
   have gV2:h2.get V=some (.cells [a']):=by
    rw [p3 V (by omega) (fun hb=>by have:=o'.ge hb;omega)];exact gV
   have hst:=HG p2 gV2
   simp only [Bool.not_false,aI,e1,au gV,aV,Nat.reduceAdd,Nat.reduceEqDiff,reduceIte,MJ,p1,hst,aE hi (show xs.l.length≤cz by unfold cz;omega)]
   refine hn _ _ ⟨a2,by rw [ag.aO,if_pos rfl],by rw [hstep];exact p2.lp hVk _,fun c hc hcV=>?_,by rw [ag.next_set];omega,e1,e5,e6,rfl⟩
   rw [ag.aO,if_neg hcV,p3 c (by omega) (fun hb=>by have:=o'.ge hb;omega),fr c hc hcV]
 ·rintro e h' ⟨a',gV,o',fr,hn',e1,e5,e6,e7⟩ K' hx
  rw [F.cV.aN]
  simp only [e6,e7,aV,Nat.reduceAdd,Nat.reduceEqDiff,reduceIte,aR]
  rw [hx,F.cV.aD]
  rw [List.take_of_length_le (Nat.le_refl _)] at o'
  exact hK a' h' gV o' fr hn'
def iV(o:List bI)(cs:List eN):List bI:=cs.foldl (fun o c=>ey o c.args.l) o
def varsOf(r:aK):List bI:=iV (ey [] r.args.l) r.body.l
def aK.kX(r:aK):Prop:=r.args.l.length≤1500∧r.body.l.length≤1500∧∀ c ∈ r.body.l,c.args.l.length≤1500
theorem Bd{o:List bI}{cs:List eN}{i:Nat}{c:eN}(hc:cs[i]?=some c):iV o (cs.take (i+1))=ey (iV o (cs.take i)) c.args.l:=by
 unfold iV;rw [List.take_add_one,hc];simp
theorem uA:∀ (cs:List eN) (o:List bI),(∀ c ∈ cs,c.args.l.length≤1500)→(iV o cs).length≤o.length+cs.length*1500
 |[],o,_=>by simp [iV]
 |c :: cs,o,h=>by
  have h1:=uA cs (ey o c.args.l) fun d hd=>h d (List.mem_cons_of_mem _ hd)
  have h2:=mF c.args.l o
  have h3:=h c List.mem_cons_self
  show (iV (ey o c.args.l) cs).length≤_
  rw [List.length_cons];omega
theorem Ee{r:aK}(hf:r.kX)(i:Nat):(iV (ey [] r.args.l) (r.body.l.take i)).length≤3000000:=by
 have h1:=uA (r.body.l.take i) (ey [] r.args.l) fun c hc=>hf.2.2 c (List.mem_of_mem_take hc)
 have h2:=mF r.args.l []
 have h3:=List.length_take_le i r.body.l
 have h4:=List.length_take_le' i r.body.l
 have:=hf.1;have:=hf.2.1
 simp only [List.length_nil] at h2
 omega
theorem cF{r:aK}(hf:r.kX){h:ag}{K:Out→ag→Bool}(hK:∀ x:Sl bI,x.l=varsOf r→K (.ret (an encS 1 x)) h=true) :
  Sem Tryz.prog 108 [.agg [.str r.name,an encS 1 r.args,an b6 4 r.body]] h K:=by
 have main:Sem Tryz.prog 108 [.agg [.str r.name,an encS 1 r.args,an b6 4 r.body]] ag.empty (fun o h'=>yes (∃ v,∃ x:Sl bI,o = .ret v∧x.l=varsOf r∧Fz true h' v (an encS 1 x))):=by
  refine F.rJ ?_
  have hb:cK (.agg [.str r.name,an encS 1 r.args,an b6 4 r.body])=some (aM r):=cY (iz r)
  simp only [hb,bindO_some,bG,ag.next_alloc]
  have g0:(ag.alloc (ag.alloc ag.empty (.cells (aM r))) (.cells [.nils])).get 0=some (.cells (aM r)):=by simp [ag.aW,bG]
  have g1:(ag.alloc (ag.alloc ag.empty (.cells (aM r))) (.cells [.nils])).get 1=some (.cells [.nils]):=by simp [ag.aW,bG]
  have gn:(ag.alloc (ag.alloc ag.empty (.cells (aM r))) (.cells [.nils])).next=2:=rfl
  generalize (ag.alloc (ag.alloc ag.empty (.cells (aM r))) (.cells [.nils]))=H at g0 g1 gn ⊢
  simp only [aV,Nat.reduceAdd,Nat.reduceEqDiff,reduceIte,au g0,aM]
  refine ak (wK g1 (by omega) (Own.nil (k:=2)) (by omega) (by have:=hf.1;simp only [List.length_nil];omega) fun a h1 q1 q2 q3 q4=>?_)
  have g0':h1.get 0=some (.cells (aM r)):=by rw [q3 0 (by omega) (by omega)];exact g0
  simp only [aV,Nat.reduceAdd,Nat.reduceEqDiff,reduceIte,au g0',aM]
  refine aB 0 r.body.l.length (Nat.zero_le _) (fun i e h'=>∃ a',h'.get 1=some (.cells [a'])∧Own encS 1 2 h' a' (iV (ey [] r.args.l) (r.body.l.take i))∧2≤h'.next ∧
   e 3 = .ptr 1 0∧e 4 = .func 154 [] [.ptr 1 0]∧e 14=an b6 4 r.body∧e 15 = .int .i64 (r.body.l.length:Int)∧e 16 = .int .i64 (i:Int)) ⟨a,q1,by simpa [iV] using q2,by omega,rfl,rfl,rfl,rfl,rfl⟩ ?_ ?_
  ·rintro i e h' _ hi ⟨a',gV,o',hn',e3,e4,e14,e15,e16⟩ K' hn hx hr hp
   have hv:r.body.l[i]?=some r.body.l[i]:=List.getElem?_eq_getElem hi
   generalize r.body.l[i]=c at hv
   have hc15:=hf.2.2 c (List.mem_of_getElem? hv)
   obtain ⟨H2,hs,k1,ko,kn⟩:=cO (h:=h') (zs:=[.int .i64 0,.bool false,.str [],.nils]) (cs:=b6 c) (n:=4) rfl rfl (gN c)
   have x2:bT h' H2:=⟨by omega,fun b hb=>ko b (by omega)⟩
   have gV2:H2.get 1=some (.cells [a']):=by rw [x2.get 1 (by omega)];exact gV
   rw [F.cF.aN]
   simp only [e3,e4,e14,e15,e16,aV,Nat.reduceAdd,Nat.reduceEqDiff,reduceIte,aY hi,aP r.body hi,dQ gL hv,hs]
   simp only [aV,Nat.reduceAdd,Nat.reduceEqDiff,reduceIte,au k1,b6,callV_func,List.nil_append,List.cons_append]
   refine ak (wK (xs:=c.args) gV2 (by omega) (o'.ext x2) (by omega) (by have:=Ee hf i;omega) fun a3 h3 s1 s2 s3 s4=>?_)
   simp only [aV,Nat.reduceAdd,Nat.reduceEqDiff,reduceIte,aE hi (show r.body.l.length≤cz by have:=hf.2.1;unfold cz;omega)]
   refine hn _ _ ⟨a3,s1,by rw [Bd hv];exact s2,by omega,e3,e4,e14,e15,rfl⟩
  ·rintro e h' ⟨a',gV,o',hn',e3,e4,e14,e15,e16⟩ K' hx
   rw [F.cF.aN]
   simp only [e15,e16,aV,Nat.reduceAdd,Nat.reduceEqDiff,reduceIte,aR]
   rw [hx,F.cF.aD]
   simp only [e3,aV,Nat.reduceAdd,Nat.reduceEqDiff,reduceIte,au gV]
   rw [List.take_of_length_le (Nat.le_refl _)] at o'
   obtain ⟨x,hx1,hx2⟩:=o'.Bb (fun v y hy=>by
    simp only [encS,List.mem_cons,List.not_mem_nil,or_false] at hy
    subst hy;exact .scalar _ rfl)
   exact cw.2 ⟨a',x,rfl,hx1,hx2⟩
 refine main.frozen (by have:=ef r;simpa [aM,AV.pureL,AV.pure] using this) fun o h' ho=>?_
 obtain ⟨v,x,rfl,hx,hfz⟩:=cw.1 ho
 exact ⟨v,_,rfl,hfz,hK x hx⟩
end
end Go.AM
namespace Go.AM
open Go Go.Proofs
noncomputable section
theorem cm(b o:Nat):bS (.ptr b o)=some (.ptr b o):=rfl
theorem Ef{d:TypeDesc}{k:AV}:∀ {es:List Entry} {i j:Nat} {v:AV},iE d k es i=some (some (j,v))→∃ n e,j=i+n∧es[n]?=some e
 |[],i,j,v,h=>by simp [iE] at h
 |e :: es,i,j,v,h=>by
  simp only [iE] at h
  split at h
  ·cases h;exact ⟨0,e,rfl,rfl⟩
  ·obtain ⟨n,f,h1,h2⟩:=Ef h
   exact ⟨n+1,f,by omega,by simpa using h2⟩
  ·cases h
theorem wL:∀ {es:List Entry} {i j:Nat} {e:Entry},(es.map (·.2.2)).Nodup→es[i]?=some e→me (e.2.2:Int) es j=some (j+i)
 |[],i,j,e,_,h=>by simp at h
 |f :: es,0,j,e,_,h=>by
  simp only [List.getElem?_cons_zero,Option.some.injEq] at h
  subst h;simp [me]
 |f :: es,i+1,j,e,hn,h=>by
  rw [List.map_cons,List.nodup_cons] at hn
  rw [List.getElem?_cons_succ] at h
  have hne:¬ ((f.2.2:Int)=(e.2.2:Int)):=fun heq=>hn.1 (by
   have:f.2.2=e.2.2:=by omega
   rw [this];exact List.mem_map_of_mem (List.mem_of_getElem? h))
  rw [me,if_neg hne,wL hn.2 h]
  congr 1;omega
theorem HH{b:Nat}{h:ag}{es:List Entry}{ck:Nat}{m:dN}(hb:h.get b=some (.map es ck))(hm:jd es m)(hB:iU es ck){k:bI}{q:Int}(hk:m.find k=some q)(v:Int) :
  ∃ es' born,jH .string (.int .i64 0) (.map b) (.str k) h=some (.tuple [.int .i64 q,.int .i64 born],h)∧gW (.map b) (.int .i64 born) (.int .i64 v) h=some (h.set b (.map es' ck))∧jd es' (m.ov k v)∧iU es' ck:=by
 obtain ⟨r,hr,hm'⟩:=jd.iE (k:=k) 0 hm
 cases r with
 |none=>simp only at hm';rw [hk] at hm';cases hm'
 |some jv=>
  obtain ⟨n,q',hj,b',c,_,e⟩:=hm'
  obtain ⟨j,w⟩:=jv
  simp only [Nat.zero_add] at hj c
  subst hj;subst c
  rw [hk] at b';cases b'
  obtain ⟨n,f,h1,h2⟩:=Ef hr
  rw [Nat.zero_add] at h1;subst h1
  refine ⟨eO es j (.int .i64 v),(f.2.2:Int),?_,?_,e v,hB.set _ _⟩
  ·simp only [jH,hb,nr,nq,if_true,hr,Cl,h2]
  ·have:=wL (j:=0) hB.nodup h2
   rw [Nat.zero_add] at this
   simp only [gW,hb,this]
structure eU (hs:List bI) (h:ag) (M:Nat) (ks:List bI) (lv:Lev.Lv):Prop where
 ex:∃ es ck m,h.get M=some (.map es ck)∧jd es m∧iU es ck∧m.map (·.1)=ks∧∀ x,m.find x=if x ∈ hs then some (lv x:Int) else none
theorem eU.keep{hs:List bI}{h h':ag}{M:Nat}{ks:List bI}{lv:Lev.Lv}(l:eU hs h M ks lv)(he:h'.get M=h.get M):eU hs h' M ks lv:=by
 obtain ⟨es,ck,m,h1,h2⟩:=l.ex
 exact ⟨es,ck,m,by rw [he];exact h1,h2⟩
def eS(r:aK)(c:eN):Lev.Edge:=⟨c.name,if c.neg then 1 else 0,r.name⟩
def jV(hs:List bI)(r:aK)(c:eN):List Lev.Edge:=if c.kind=0∧c.name ∈ hs then [eS r c] else []
def lu(hs:List bI)(r:aK)(cs:List eN):List Lev.Edge:=cs.flatMap (jV hs r)
def jh(hs:List bI)(rs:List aK):List Lev.Edge:=rs.flatMap fun r=>lu hs r r.body.l
theorem wM{hs:List bI}{r:aK}{cs:List eN}{j:Nat}{c:eN}(hc:cs[j]?=some c):lu hs r (cs.take (j+1))=lu hs r (cs.take j)++jV hs r c:=by
 unfold lu;rw [List.take_add_one,hc];simp
theorem zV{hs:List bI}{rs:List aK}{i:Nat}{r:aK}(hr:rs[i]?=some r):jh hs (rs.take (i+1))=jh hs (rs.take i)++lu hs r r.body.l:=by
 unfold jh;rw [List.take_add_one,hr];simp
end
end Go.AM
namespace Go.AM
open Go Go.Proofs
noncomputable section
theorem eU.look{hs:List bI}{h:ag}{M:Nat}{ks:List bI}{lv:Lev.Lv}(l:eU hs h M ks lv)(k:bI) :
  dB .string (.int .i64 0) true (.map M) (.str k) h=some (.tuple [.int .i64 (if k ∈ hs then (lv k:Int) else 0),.bool (decide (k ∈ hs))]):=by
 obtain ⟨es,ck,m,h1,h2,h3,h4,h5⟩:=l.ex
 rw [ox h1 h2,h5]
 by_cases hk:k ∈ hs<;>simp [hk]
theorem eU.MK{hs:List bI}{h:ag}{M:Nat}{ks:List bI}{lv:Lev.Lv}(l:eU hs h M ks lv)(k:bI) :
  dB .string (.int .i64 0) false (.map M) (.str k) h=some (.int .i64 (if k ∈ hs then (lv k:Int) else 0)):=by
 obtain ⟨es,ck,m,h1,h2,h3,h4,h5⟩:=l.ex
 rw [qp h1 h2,h5]
 by_cases hk:k ∈ hs<;>simp [hk]
theorem eU.QN{hs:List bI}{h:ag}{M:Nat}{ks:List bI}{lv:Lev.Lv}{e:Lev.Edge}(l:eU hs h M ks lv)(hh:e.h ∈ hs)(hlt:lv e.h<lv e.b+e.w) :
  ∃ born h',jH .string (.int .i64 0) (.map M) (.str e.h) h=some (.tuple [.int .i64 (lv e.h:Int),.int .i64 born],h)∧gW (.map M) (.int .i64 born) (.int .i64 ((lv e.b+e.w:Nat):Int)) h=some h' ∧
   eU hs h' M ks (Lev.fR lv e)∧(∀ b,b≠M→h'.get b=h.get b)∧h'.next=h.next:=by
 obtain ⟨es,ck,m,h1,h2,h3,h4,h5⟩:=l.ex
 have hf:m.find e.h=some (lv e.h:Int):=by rw [h5,if_pos hh]
 obtain ⟨es',born,q1,q2,q3,q4⟩:=HH h1 h2 h3 hf ((lv e.b+e.w:Nat):Int)
 refine ⟨born,_,q1,q2,⟨es',ck,_,by rw [ag.aO,if_pos rfl],q3,q4,?_,fun x=>?_⟩,fun b hb=>by rw [ag.aO,if_neg hb],ag.next_set _ _ _⟩
 ·rw [Ec,if_pos (List.mem_map.2 ⟨_,nF hf,rfl⟩)];exact h4
 ·rw [rz]
  unfold Lev.fR
  rw [if_pos hlt]
  by_cases hx:x=e.h
  ·subst hx;rw [if_pos rfl,if_pos hh,if_pos rfl]
  ·rw [if_neg hx,if_neg hx,h5]
theorem FJ{P M:Nat}{A:AV}{rules:Sl aK}{hs ks:List bI}{lv:Lev.Lv}{N:Nat}{h:ag}(hP:h.get P=some (.cells [an aM 3 rules,A,.map M]))(hl:eU hs h M ks lv)(hPn:P<h.next)(hMn:M<h.next)
  (hr:rules.l.length≤60) (hb:∀ r ∈ rules.l,r.body.l.length≤20∧r.name ∈ hs) (hN:∀ x,lv x≤N) (hNb:N≤1000000) {K:Out→ag→Bool}
  (hK:∀ h',eU hs h' M ks (Lev.round (jh hs rules.l) lv)→(∀ b,b<h.next→b≠M→h'.get b=h.get b)→h.next≤h'.next→K (.ret (.bool (!decide (Lev.dc (jh hs rules.l) lv)))) h'=true):Sem Tryz.prog 133 [.ptr P 0] h K:=by
 have hPM:P≠M:=fun e=>by
  obtain ⟨es,ck,m,h1,_⟩:=hl.ex
  rw [e,h1] at hP;cases hP
 refine F.oB ?_
 simp only [aV,Nat.reduceAdd,Nat.reduceEqDiff,reduceIte,cm,au hP]
 refine aB 0 rules.l.length (Nat.zero_le _) (fun i e h'=>∃ cur ch,Lev.RS lv cur (jh hs (rules.l.take i)) ch∧eU hs h' M ks cur∧(∀ x,cur x≤N+i*20)∧(∀ b,b<h.next→b≠M→h'.get b=h.get b)∧h.next≤h'.next ∧
  e 0 = .ptr P 0∧e 3 = .bool ch∧e 13=an aM 3 rules∧e 14 = .int .i64 (rules.l.length:Int)∧e 15 = .int .i64 (i:Int)) ⟨lv,false,Lev.RS.nil lv,hl,by simpa using hN,fun _ _ _=>rfl,Nat.le_refl _,rfl,rfl,rfl,rfl,rfl⟩ ?_ ?_
 ·rintro i e h' _ hi ⟨cur,ch,rs,la,bd,fr,hn',e0,e3,e13,e14,e15⟩ K' hn hx hr' hp
  have hv:rules.l[i]?=some rules.l[i]:=List.getElem?_eq_getElem hi
  generalize rules.l[i]=r at hv
  obtain ⟨hb20,hin⟩:=hb r (List.mem_of_getElem? hv)
  obtain ⟨H,hs1,g1,go,gn⟩:=cO (h:=h') (zs:=[.str [],.nils,.nils]) (cs:=aM r) (n:=3) rfl rfl (iz r)
  rw [F.aZ.aN]
  simp only [e0,e3,e13,e14,e15,aV,Nat.reduceAdd,Nat.reduceEqDiff,reduceIte,aY hi,aP rules hi,dQ fe hv,hs1]
  simp only [aV,Nat.reduceAdd,Nat.reduceEqDiff,reduceIte,au g1,aM]
  refine aB 0 r.body.l.length (Nat.zero_le _) (fun j e h2=>∃ cur ch,Lev.RS lv cur (jh hs (rules.l.take i)++lu hs r (r.body.l.take j)) ch∧eU hs h2 M ks cur∧(∀ x,cur x≤N+i*20+j)∧(∀ b,b<h.next→b≠M→h2.get b=h.get b)∧h2.get h'.next=some (.cells (aM r))∧h'.next<h2.next ∧
   e 0 = .ptr P 0∧e 3 = .bool ch∧e 5 = .ptr h'.next 0∧e 13=an aM 3 rules∧e 14 = .int .i64 (rules.l.length:Int)∧e 15 = .int .i64 (i:Int)∧e 20=an b6 4 r.body∧e 21 = .int .i64 (r.body.l.length:Int)∧e 22 = .int .i64 (j:Int))
   ⟨cur,ch,by simpa [lu] using rs,la.keep (go M (by omega)),by simpa using bd,fun b hb1 hb2=>by rw [go b (by omega)];exact fr b hb1 hb2,g1,by omega,e0,e3,rfl,e13,e14,e15,rfl,rfl,rfl⟩ ?_ ?_
  ·rintro j e h2 _ hj ⟨cur,ch,rs,la,bd,fr,gR,hn2,e0,e3,e5,e13,e14,e15,e20,e21,e22⟩ K2 hn2' hx2 hr2 hp2
   have hc:r.body.l[j]?=some r.body.l[j]:=List.getElem?_eq_getElem hj
   generalize r.body.l[j]=c at hc
   obtain ⟨H2,hs2,k1,ko,kn⟩:=cO (h:=h2) (zs:=[.int .i64 0,.bool false,.str [],.nils]) (cs:=b6 c) (n:=4) rfl rfl (gN c)
   have la2:eU hs H2 M ks cur:=la.keep (ko M (by omega))
   have gP2:H2.get P=some (.cells [an aM 3 rules,A,.map M]):=by rw [ko P (by omega),fr P hPn hPM];exact hP
   have gR2:H2.get h'.next=some (.cells (aM r)):=by rw [ko _ (by omega)];exact gR
   have fr2:∀ b,b<h.next→b≠M→H2.get b=h.get b:=fun b hb1 hb2=>by rw [ko b (by omega)];exact fr b hb1 hb2
   have hbig:r.body.l.length≤cz:=by unfold cz;omega
   have hst:=wM (hs:=hs) (r:=r) hc
   rw [F.aZ.cP]
   simp only [e0,e3,e5,e13,e14,e15,e20,e21,e22,aV,Nat.reduceAdd,Nat.reduceEqDiff,reduceIte,aY hj,aP r.body hj,dQ gL hc,hs2]
   simp only [aV,Nat.reduceAdd,Nat.reduceEqDiff,reduceIte,au k1,cm,au gP2,b6,la2.look,cQ]
   by_cases k0:c.kind=0
   ·simp only [decide_eq_true k0,Bool.not_true,aG]
    by_cases hm:c.name ∈ hs
    ·have hed:jV hs r c = [eS r c]:=by unfold jV;rw [if_pos ⟨k0,hm⟩]
     rw [hed] at hst
     simp only [decide_eq_true hm,Bool.not_true,aG,if_pos hm,aV,Nat.reduceAdd,Nat.reduceEqDiff,reduceIte,au k1,b6]
     have J:∀ e':Env,e' 0 = .ptr P 0→e' 3 = .bool ch→e' 5 = .ptr h'.next 0→e' 8 = .int .i64 ((cur c.name+(eS r c).w:Nat):Int)→e' 13=an aM 3 rules→e' 14 = .int .i64 (rules.l.length:Int)→e' 15 = .int .i64 (i:Int)→e' 20=an b6 4 r.body→e' 21 = .int .i64 (r.body.l.length:Int)→e' 22 = .int .i64 (j:Int) →
       F.aZ.J0 K2 ⟨e',71,[],H2⟩=true:=by
      intro e' e0 e3 e5 e8 e13 e14 e15 e20 e21 e22
      rw [F.aZ.zm]
      simp only [e0,e5,e8,aV,Nat.reduceAdd,Nat.reduceEqDiff,reduceIte,cm,au gP2,au gR2,aM,la2.MK,if_pos hin]
      by_cases hlt:cur r.name<cur c.name+(eS r c).w
      ·obtain ⟨born,h3,q1,q2,q3,q4,q5⟩:=la2.QN (e:=eS r c) hin hlt
       have q1':jH .string (.int .i64 0) (.map M) (.str r.name) H2=some (.tuple [.int .i64 (cur r.name:Int),.int .i64 born],H2):=q1
       have q2':gW (.map M) (.int .i64 born) (.int .i64 ((cur c.name+(eS r c).w:Nat):Int)) H2=some h3:=q2
       simp only [aY hlt,aI,e0,e5,e8,e22,aV,Nat.reduceAdd,Nat.reduceEqDiff,reduceIte,cm,au gP2,au gR2,aM,q1',q2',aE hj hbig]
       refine hn2' _ _ ⟨_,true,?_,q3,fun x=>?_,fun b hb1 hb2=>by rw [q4 b hb2];exact fr2 b hb1 hb2,?_,by omega,e0,rfl,e5,e13,e14,e15,e20,e21,rfl⟩
       ·rw [hst,← List.append_assoc];exact rs.up hlt
       ·have:=Lev.pI (e:=eS r c) bd (by unfold eS;simp only;split<;>omega) x;omega
       ·rw [q4 _ (by omega)];exact gR2
      ·simp only [decide_eq_false (by omega:¬ ((cur r.name:Int)<((cur c.name+(eS r c).w:Nat):Int))),aG,e22,aE hj hbig,bindO_some]
       exact hn2' _ _ ⟨cur,ch,by rw [hst,← List.append_assoc];exact rs.same hlt,la2,fun x=>by have:=bd x;omega,fr2,gR2,by omega,e0,e3,e5,e13,e14,e15,e20,e21,rfl⟩
     cases hng:c.neg with
     |true=>
      have hw:(eS r c).w=1:=by unfold eS;simp [hng]
      have hadd:=aE (i:=cur c.name) (n:=2000000) (by have:=bd c.name;omega) (by unfold cz;omega)
      simp only [aI,hadd,bindO_some]
      exact J _ e0 e3 e5 (by rw [hw];rfl) e13 e14 e15 e20 e21 e22
     |false=>
      have hw:(eS r c).w=0:=by unfold eS;simp [hng]
      simp only [aG]
      exact J _ e0 e3 e5 (by rw [hw];rfl) e13 e14 e15 e20 e21 e22
    ·have hed:jV hs r c = []:=by unfold jV;rw [if_neg (fun h=>hm h.2)]
     rw [hed,List.append_nil] at hst
     simp only [decide_eq_false hm,Bool.not_false,aI,aE hj hbig,bindO_some]
     exact hn2' _ _ ⟨cur,ch,by rw [hst];exact rs,la2,fun x=>by have:=bd x;omega,fr2,gR2,by omega,e0,e3,e5,e13,e14,e15,e20,e21,rfl⟩
   ·have hed:jV hs r c = []:=by unfold jV;rw [if_neg (fun h=>k0 h.1)]
    rw [hed,List.append_nil] at hst
    simp only [decide_eq_false k0,Bool.not_false,aI,aE hj hbig,bindO_some]
    exact hn2' _ _ ⟨cur,ch,by rw [hst];exact rs,la2,fun x=>by have:=bd x;omega,fr2,gR2,by omega,e0,e3,e5,e13,e14,e15,e20,e21,rfl⟩
  ·rintro e h2 ⟨cur,ch,rs,la,bd,fr,gR,hn2,e0,e3,e5,e13,e14,e15,e20,e21,e22⟩ K2 hx2
   rw [F.aZ.cP]
   simp only [e21,e22,aV,Nat.reduceAdd,Nat.reduceEqDiff,reduceIte,aR]
   rw [hx2,F.aZ.b8]
   simp only [e15,aV,Nat.reduceAdd,Nat.reduceEqDiff,reduceIte,aE hi (show rules.l.length≤cz by unfold cz;omega),bindO_some]
   rw [List.take_of_length_le (Nat.le_refl _),← zV hv] at rs
   exact hn _ _ ⟨cur,ch,rs,la,fun x=>by have:=bd x;omega,fr,by omega,e0,e3,e13,e14,rfl⟩
 ·rintro e h' ⟨cur,ch,rs,la,bd,fr,hn',e0,e3,e13,e14,e15⟩ K' hx
  rw [F.aZ.aN]
  simp only [e14,e15,aV,Nat.reduceAdd,Nat.reduceEqDiff,reduceIte,aR]
  rw [hx,F.aZ.aD]
  rw [List.take_of_length_le (Nat.le_refl _)] at rs
  obtain ⟨d1,d2⟩:=rs.done
  simp only [bu,Nat.reduceEqDiff,reduceIte,e3]
  rw [d2]
  rw [d1] at la
  exact hK h' la fr hn'
end
end Go.AM
namespace Go.AM
open Go Go.Proofs
noncomputable section
theorem Qq(x:Sl aK)(A M:Nat):gQ [.nils,.nilm,.nilm] [(0,1),(1,1),(2,1)] [an aM 3 x,.map A,.map M]=some (.agg [an aM 3 x,.map A,.map M]):=by cases x<;>rfl
theorem Qr(x:Sl aK)(A M:Nat):cK (.agg [an aM 3 x,.map A,.map M])=some [an aM 3 x,.map A,.map M]:=cY (by simp only [bL,jc];rfl)
def zW(m:dN)(nm:bI)(n:Nat):Option dN:=match m.find nm with
 |none=>some (m.ov nm n)
 |some k=>if k=(n:Int) then some (m.ov nm n) else none
def lP:List eN→dN→Option dN
 |[],m=>some m
 |c :: cs,m=>bif fO c then (if c.kind=0 then (match zW m c.name c.args.l.length with|none=>none|some m'=>lP cs m') else lP cs m) else none
def dU:List aK→dN→Option dN
 |[],m=>some m
 |r :: rs,m=>bif kg r.name r.args.l then (match zW m r.name r.args.l.length with
   |none=>none
   |some m1=>if 20<r.body.l.length then none else if 12<(varsOf r).length then none else match lP r.body.l m1 with
    |none=>none
    |some m2=>dU rs m2) else none
theorem BP{α:Type}{l:List α}{i:Nat}{a:α}(h:l[i]?=some a):l.drop i=a :: l.drop (i+1):=by
 have hi:i<l.length:=(List.getElem?_eq_some_iff.1 h).1
 rw [List.drop_eq_getElem_cons hi]
 rw [List.getElem?_eq_getElem hi] at h
 cases h;rfl
theorem eU.add{hs:List bI}{h:ag}{M:Nat}{ks:List bI}(l:eU hs h M ks (fun _=>0))(hn:ks.Nodup)(nm:bI) :
  ∃ h' ks',ew .string (.map M) (.str nm) (.int .i64 0) h=some h'∧eU (hs++[nm]) h' M ks' (fun _=>0)∧ks'.Nodup∧(∀ b,b≠M→h'.get b=h.get b)∧h'.next=h.next:=by
 obtain ⟨es,ck,m,h1,h2,h3,h4,h5⟩:=l.ex
 obtain ⟨es',ck',q1,q2⟩:=yY h1 h2 nm 0
 have g:(h.set M (.map es' ck')).get M=some (.map es' ck'):=by rw [ag.aO,if_pos rfl]
 refine ⟨_,(m.ov nm 0).map (·.1),q1,⟨es',ck',_,g,q2,rZ h1 h3 q1 g,rfl,fun x=>?_⟩,BN (by rw [h4];exact hn) nm 0,fun b hb=>by rw [ag.aO,if_neg hb],ag.next_set _ _ _⟩
 rw [rz,h5]
 by_cases hx:x=nm
 ·subst hx;simp
 ·simp [hx]
theorem eU.mem{hs:List bI}{h:ag}{M:Nat}{ks:List bI}{lv:Lev.Lv}(l:eU hs h M ks lv)(x:bI):x ∈ ks↔x ∈ hs:=by
 obtain ⟨es,ck,m,h1,h2,h3,h4,h5⟩:=l.ex
 rw [← h4]
 constructor
 ·intro hx
  obtain ⟨p,hp,rfl⟩:=List.mem_map.1 hx
  have h6:=h5 p.1
  by_cases hh:p.1 ∈ hs
  ·exact hh
  ·rw [if_neg hh] at h6
   unfold dN.find at h6
   rw [Option.map_eq_none_iff,List.find?_eq_none] at h6
   exact absurd (h6 p hp) (by simp)
 ·intro hx
  have h6:=h5 x
  rw [if_pos hx] at h6
  exact List.mem_map.2 ⟨_,nF h6,rfl⟩
theorem eU.len{hs:List bI}{h:ag}{M:Nat}{ks:List bI}{lv:Lev.Lv}(l:eU hs h M ks lv):bx .map (.map M) h=some (.int .i64 (ks.length:Int)):=by
 obtain ⟨es,ck,m,h1,h2,h3,h4,h5⟩:=l.ex
 have:∀ (es:List Entry) (m:dN),jd es m→es.length=m.length:=by
  intro es
  induction es with
  |nil=>intro m hm;cases m with
   |nil=>rfl
   |cons p m=>exact hm.elim
  |cons e es ih=>intro m hm;cases m with
   |nil=>exact hm.elim
   |cons p m=>rw [List.length_cons,List.length_cons,ih m hm.2.2]
 have hl:=this es m h2
 rw [← h4,List.length_map,← hl]
 simp [bx,jO,h1]
theorem zX:∀ {E:List Lev.Edge} {L:Lev.Lv} {N:Nat},(∀ e ∈ E,e.w≤1)→(∀ x,L x≤N)→∀ x,E.foldl Lev.fR L x≤N+E.length
 |[],L,N,_,h,x=>h x
 |e :: E,L,N,hw,h,x=>by
  have:=zX (E:=E) (L:=Lev.fR L e) (N:=N+1) (fun f hf=>hw f (List.mem_cons_of_mem _ hf)) (Lev.pI h (hw e List.mem_cons_self)) x
  rw [List.length_cons]
  show E.foldl Lev.fR (Lev.fR L e) x≤_
  omega
theorem zY(hs:List bI)(r:aK):∀ cs:List eN,(lu hs r cs).length≤cs.length
 |[]=>Nat.le_refl _
 |c :: cs=>by
  have:=zY hs r cs
  have h1:(jV hs r c).length≤1:=by unfold jV;split<;>simp
  show (jV hs r c++lu hs r cs).length≤_
  rw [List.length_append,List.length_cons];omega
theorem BQ(hs:List bI):∀ rs:List aK,(∀ r ∈ rs,r.body.l.length≤20)→(jh hs rs).length≤rs.length*20
 |[],_=>Nat.le_refl _
 |r :: rs,h=>by
  have h1:=BQ hs rs fun q hq=>h q (List.mem_cons_of_mem _ hq)
  have h2:=zY hs r r.body.l
  have h3:=h r List.mem_cons_self
  show (lu hs r r.body.l++jh hs rs).length≤_
  rw [List.length_append,List.length_cons];omega
theorem qt{hs:List bI}{rs:List aK}{e:Lev.Edge}(he:e ∈ jh hs rs):∃ r ∈ rs,∃ c ∈ r.body.l,c.kind=0∧c.name ∈ hs∧e=eS r c:=by
 obtain ⟨r,hr,he⟩:=List.mem_flatMap.1 he
 obtain ⟨c,hc,he⟩:=List.mem_flatMap.1 he
 unfold jV at he
 split at he
 ·rename_i h;rw [List.mem_singleton] at he;exact ⟨r,hr,c,hc,h.1,h.2,he⟩
 ·cases he
theorem FK(r:aK)(c:eN):(eS r c).w≤1:=by unfold eS;simp only;split<;>omega
theorem g9:∀ {rs:List aK} {m m':dN},dU rs m=some m'→∀ r ∈ rs,kg r.name r.args.l=true∧r.body.l.length≤20∧(varsOf r).length≤12
 |[],_,_,_,r,hr=>by cases hr
 |r0 :: rs,m,m',h,r,hr=>by
  rw [dU] at h
  cases ha:kg r0.name r0.args.l with
  |false=>rw [ha] at h;cases h
  |true=>
   rw [ha,cond_true] at h
   split at h
   ·cases h
   ·split at h
    ·cases h
    ·split at h
     ·cases h
     ·split at h
      ·cases h
      ·rcases List.mem_cons.1 hr with rfl|hr
       ·exact ⟨ha,by omega,by omega⟩
       ·exact g9 h r hr
def bA(rs:List aK):List bI:=rs.map (·.name)
def bQ(rs:List aK):List Lev.Edge:=jh (bA rs) rs
structure jW (rs:List aK):Prop where
 kX:rs.length≤60
 go:∃ m,dU rs []=some m
 lev:∃ k,Lev.dc (bQ rs) (Lev.iter (bQ rs) k)
theorem sY{rs:List aK}(h60:rs.length≤60)(h20:∀ r ∈ rs,r.body.l.length≤20):∀ k x,Lev.iter (bQ rs) k x≤k*1200
 |0,x=>Nat.zero_le _
 |k+1,x=>by
  have h1:=zX (E:=bQ rs) (L:=Lev.iter (bQ rs) k) (N:=k*1200) (fun e he=>by obtain ⟨r,_,c,_,_,_,rfl⟩:=qt he;exact FK r c) (sY h60 h20 k) x
  have h2:(bQ rs).length≤rs.length*20:=BQ _ rs h20
  show (bQ rs).foldl Lev.fR (Lev.iter (bQ rs) k) x≤_
  omega
end
end Go.AM
namespace Go.AM
open Go Go.Proofs
noncomputable section
def HI(m:dN)(nm:bI)(n:Nat):Bool:=match m.find nm with|none=>true|some k=>decide (k=(n:Int))
theorem BR(m:dN)(nm:bI)(n:Nat):zW m nm n=if HI m nm n=true then some (m.ov nm n) else none:=by
 unfold zW HI
 cases m.find nm with
 |none=>rfl
 |some k=>by_cases h:k=(n:Int)<;>simp [h]
end
end Go.AM
namespace Go.AM
open Go Go.Proofs
noncomputable section
theorem Eg(n:Int):bL (encI n)=true:=rfl
theorem Jk(n:Int):eF [.int .i64 0] [(0,1)] [.int .i64 n]=some (encI n):=rfl
theorem Eh{s:bI}(h:dZ s=true):s.length≤12:=by
 cases s with
 |nil=>exact Nat.zero_le _
 |cons c s=>
  simp only [dZ,Bool.and_eq_true] at h
  simp only [decide_eq_true_eq] at h
  omega
theorem sZ{nm:bI}{xs:List bI}(h:kg nm xs=true):dZ nm=true:=by
 unfold kg at h;rw [Bool.and_eq_true] at h;exact h.1
theorem eU.QO{hs:List bI}{h:ag}{M:Nat}{ks:List bI}{lv:Lev.Lv}(l:eU hs h M ks lv)(hks:ks.Nodup)(hlen:∀ s ∈ ks,s.length≤1000) :
  ∃ es ck,h.get M=some (.map es ck)∧oy ck es=true∧es.map keyBytes=ks∧es.length=ks.length:=by
 obtain ⟨es,ck,m,h1,h2,h3,h4,h5⟩:=l.ex
 have hk:es.map keyBytes=ks:=by rw [GK h2,h4]
 refine ⟨es,ck,h1,BO (fun e he=>?_) (by rw [hk];exact hks) h3.nodup,hk,by rw [← hk,List.length_map]⟩
 obtain ⟨p,hp,q1,q2⟩:=h2.mem e he
 exact ⟨⟨p.1,q1,hlen _ (by rw [← h4];exact List.mem_map_of_mem hp)⟩,h3.lt e he⟩
end
end Go.AM
namespace Go.AM
open Go Go.Proofs
noncomputable section
def er(t:Sl Int):List AV:=[an encI 1 t]
theorem qu(t:Sl Int):(er t).length=1:=rfl
theorem kD(t:Sl Int):AV.pureL (er t)=true:=by simp [er,AV.pureL,bE gi]
theorem fJ{l:List (Sl Int)}{i:Nat}{t:Sl Int}(ht:l[i]?=some t){h:ag}:ai none (.iptr (l.flatMap er) (i*1)) h=some (an encI 1 t):=by
 rw [nZ qu ht];rfl
section
variable {α:Type} {enc:α→List AV} {sz k:Nat}
end
abbrev PB:=Nat×List Int
def ta(p:PB):List AV:=[.slice p.1 0 p.2.length 1]
theorem zZ(p:PB):(ta p).length=1:=rfl
theorem Jl(p:PB):bL (ta p)=true:=rfl
structure nh (k:Nat) (h:ag) (a:AV) (ps:List PB):Prop where
 own:Own ta 1 k h a ps
 cell:∀ p ∈ ps,k≤p.1∧p.1<h.next∧dV a≠some p.1∧h.get p.1=some (.cells (p.2.map iv))
theorem nh.nil(k:Nat)(h:ag):nh k h .nils []:=⟨.nil,fun p hp=>by cases hp⟩
theorem nh.ext{k:Nat}{h h':ag}{a:AV}{ps:List PB}(n:nh k h a ps)(hx:bT h h'):nh k h' a ps:=
 ⟨n.own.ext hx,fun p hp=>by
  obtain ⟨h1,h2,h3,h4⟩:=n.cell p hp
  exact ⟨h1,Nat.lt_of_lt_of_le h2 hx.next,h3,by rw [hx.get _ h2];exact h4⟩⟩
theorem nh.tD{old:Bool}{k:Nat}{h:ag}{a:AV}{ps:List PB}(n:nh k h a ps):∃ x:Sl (Sl Int),x.l.map Sl.l=ps.map (·.2)∧Fz old h a (an er 1 x):=by
 obtain ⟨o,hc⟩:=n
 cases o with
 |nil=>exact ⟨none,rfl,.scalar _ rfl⟩
 |row b ps h1 h2 h3=>
  refine ⟨some (ps.map fun p=>some p.2),by simp [List.map_map,Function.comp_def],?_⟩
  have e1:ps.flatMap ta=ps.map fun p=>AV.slice p.1 0 p.2.length 1:=by
   induction ps with
   |nil=>rfl
   |cons p ps ih=>rw [List.flatMap_cons,List.map_cons];exact congrArg _ (by
     clear ih h3 hc
     induction ps with
     |nil=>rfl
     |cons q ps ih=>rw [List.flatMap_cons,List.map_cons,ih];rfl)
  have e2:(ps.map fun p=>(some p.2:Sl Int)).flatMap er=ps.map fun p=>an encI 1 (some p.2):=by
   clear h3 hc e1
   induction ps with
   |nil=>rfl
   |cons q ps ih=>rw [List.map_cons,List.flatMap_cons,List.map_cons,ih];rfl
  rw [e1] at h3
  have hf:Fz old h (.slice b 0 ps.length 1) (.islice (ps.map fun p=>an encI 1 (some p.2)) 0 ps.length 1):=by
   refine .slice b 0 ps.length 1 _ _ h3 (by simp) fun i x y hx hy=>?_
   rw [List.getElem?_map] at hx hy
   obtain ⟨p,hp,rfl⟩:=Option.map_eq_some_iff.1 hx
   rw [hp] at hy;cases hy
   exact lN (hc p (List.mem_of_getElem? hp)).2.2.2
  have:an er 1 (some (ps.map fun p=>(some p.2:Sl Int))) = .islice (ps.map fun p=>an encI 1 (some p.2)) 0 ps.length 1:=by
   simp only [an,e2,List.length_map]
  rw [this];exact hf
theorem nh.push{k:Nat}{h:ag}{a:AV}{ps:List PB}(n:nh k h a ps)(hk:k≤h.next)(hroom:(ps.length+1)*24≤cX)(p:PB)(p1:k≤p.1)(p2:p.1<h.next)(p3:dV a≠some p.1)(p4:h.get p.1=some (.cells (p.2.map iv))) :
  ∃ a' h',bW 1 24 a (.slice h.next 0 1 1) (h.alloc (.cells (ta p)))=some (a',h')∧nh k h' a' (ps++[p])∧h.next≤h'.next∧(∀ c,c<h.next→dV a≠some c→h'.get c=h.get c)∧(∀ h0,bT h0 h→h0.next≤k→bT h0 h')∧∀ c,dV a'=some c→h.next≤c:=by
 obtain ⟨a',h',e1,o1,f1,n1,x1,b1⟩:=n.own.push zZ Jl hk hroom p
 refine ⟨a',h',e1,⟨o1,fun q hq=>?_⟩,n1,f1,x1,b1⟩
 have hq':k≤q.1∧q.1<h.next∧dV a≠some q.1∧h.get q.1=some (.cells (q.2.map iv)):=by
  rcases List.mem_append.1 hq with hq|hq
  ·exact n.cell q hq
  ·rw [List.mem_singleton] at hq;subst hq;exact ⟨p1,p2,p3,p4⟩
 obtain ⟨q1,q2,q3,q4⟩:=hq'
 exact ⟨q1,by omega,fun hb=>by have:=b1 _ hb;omega,by rw [f1 _ q2 q3];exact q4⟩
theorem nh.at_{k:Nat}{h:ag}{a:AV}{ps:List PB}(n:nh k h a ps){i:Nat}{p:PB}(hp:ps[i]?=some p) :
  ∃ b,(∀ q:IntKind,cL 1 a (.int q (i:Int))=some (.ptr b (i*1)))∧b<h.next∧(∀ h',bT h h'→ai none (.ptr b (i*1)) h'=some (.slice p.1 0 p.2.length 1)):=by
 obtain ⟨b,b1,b2,b3,_,b5⟩:=n.own.get zZ hp
 refine ⟨b,b3,b2,fun h' hx=>?_⟩
 obtain ⟨b',_,_,c3,_,c5⟩:=(n.own.ext hx).get zZ hp
 obtain rfl:b=b':=by have:=b3 .i64;rw [c3 .i64] at this;cases this;rfl
 have:=c5 0 (by omega)
 rw [Nat.add_zero] at this
 rw [this];rfl
theorem Jm{h:ag}{b:Nat}{l:List Int}(hb:h.get b=some (.cells (l.map iv)))(hbn:b<h.next)(hl:l.length≤1000000)(x:Int) :
  ∃ b' h',bW 1 8 (.slice b 0 l.length 1) (.slice h.next 0 1 1) (h.alloc (.cells [.int .i64 x]))=some (.slice b' 0 (l++[x]).length 1,h')∧h'.get b'=some (.cells ((l++[x]).map iv))∧(∀ c,c<h.next→c≠b→h'.get c=h.get c)∧h.next≤b'∧b'<h'.next:=by
 have hm:cX=140737488355328:=rfl
 have g:(h.alloc (.cells [.int .i64 x])).get h.next=some (.cells [.int .i64 x]):=aC _ _
 have g2:(h.alloc (.cells [.int .i64 x])).get b=some (.cells (l.map iv)):=by rw [ag.aW,if_neg (by omega)];exact hb
 refine ⟨h.next+1,((h.alloc (.cells [.int .i64 x])).set b .dead).alloc (.cells ((l++[x]).map iv)),?_,?_,fun c hc hcb=>?_,by omega,?_⟩
 ·have hf:fT 1 1 (.slice h.next 0 1 1) (h.alloc (.cells [.int .i64 x]))=some [.int .i64 x]:=by simp [fT,g]
  simp only [bW,jm,hf,if_true,g2]
  rw [if_neg (by decide),if_pos (by simp [bL,AV.one];omega)]
  simp only [ag.next_set,ag.next_alloc,List.drop_zero,Nat.mul_one]
  congr 2
  ·simp
  ·congr 2
   rw [List.take_of_length_le (by simp),List.map_append];rfl
 ·have:=aC ((h.alloc (.cells [.int .i64 x])).set b .dead) (.cells ((l++[x]).map iv))
  rwa [ag.next_set,ag.next_alloc] at this
 ·rw [ag.aW,ag.next_set,ag.next_alloc,if_neg (by omega),ag.aO,if_neg hcb,ag.aW,if_neg (by omega)]
 ·rw [ag.next_alloc,ag.next_set,ag.next_alloc];omega
end
end Go.AM
namespace Go.AM
open Go Go.Proofs
noncomputable section
theorem CX{n:Nat}(h1:1≤n){i k:Nat}(h:i≤k):n ^ i≤n ^ k:=Nat.pow_le_pow_right h1 h
theorem qv(n:Nat):∀ (a b:List Int) (r:Nat),pE n (a++b) r=pE n b (pE n a r)
 |[],_,_=>rfl
 |x :: a,b,r=>qv n a b _
theorem GN{n:Nat}:∀ (l:List Int) (r i:Nat),gI n l=true→r<n ^ i→pE n l r<n ^ (i+l.length)
 |[],r,i,_,h=>h
 |x :: l,r,i,hb,h=>by
  simp only [gI,List.all_cons,Bool.and_eq_true,Bool.not_eq_true',decide_eq_false_iff_not] at hb
  have:r*n+x.toNat<n ^ (i+1):=by
   have h1:(r+1)*n≤n ^ i*n:=Nat.mul_le_mul_right n h
   rw [Nat.succ_mul] at h1
   rw [Nat.pow_succ]
   omega
  have:=GN l (r*n+x.toNat) (i+1) (by rw [gI,List.all_eq_true];simpa using hb.2) this
  rw [List.length_cons,show i+(l.length+1)=i+1+l.length by omega]
  exact this
theorem kE{n:Nat}{l:List Int}(hb:gI n l=true):gy n l<n ^ l.length:=by
 have:=GN l 0 0 hb (by simp)
 rw [Nat.zero_add] at this
 exact this
theorem Jn{n:Nat}{l:List Int}{i:Nat}{v:Int}(hv:l[i]?=some v):gy n (l.take (i+1))=gy n (l.take i)*n+v.toNat:=by
 rw [gy,List.take_add_one,hv,qv];rfl
theorem L9{n:Int}{l:List Int}(hb:gI n l=true)(i:Nat):gI n (l.take i)=true:=by
 unfold gI at hb ⊢
 rw [List.all_eq_true] at hb ⊢
 exact fun x hx=>hb x (List.mem_of_mem_take hx)
theorem Jo{n:Int}{l:List Int}(hb:gI n l=true){i:Nat}{v:Int}(hv:l[i]?=some v):0≤v∧v<n:=by
 unfold gI at hb
 rw [List.all_eq_true] at hb
 have:=hb v (List.mem_of_getElem? hv)
 simp at this;omega
theorem kY{n:Nat}{l:List Int}(hb:gI n l=true)(h1:1≤n)(hc:n ^ l.length≤4096){i:Nat}{v:Int}(hv:l[i]?=some v) :
  aA .mul (.int .i64 ((gy n (l.take i):Nat):Int)) (.int .i64 (n:Int))=some (.int .i64 ((gy n (l.take i)*n:Nat):Int)) ∧
  aA .add (.int .i64 ((gy n (l.take i)*n:Nat):Int)) (.int .i64 v)=some (.int .i64 ((gy n (l.take (i+1)):Nat):Int)):=by
 have hi:i<l.length:=(List.getElem?_eq_some_iff.1 hv).1
 have hlt:gy n (l.take (i+1))<n ^ (l.take (i+1)).length:=kE (L9 hb _)
 have hp:n ^ (l.take (i+1)).length≤4096:=Nat.le_trans (CX h1 (by rw [List.length_take];omega)) hc
 obtain ⟨v0,v1⟩:=Jo hb hv
 have he:gy n (l.take (i+1))=gy n (l.take i)*n+v.toNat:=Jn hv
 have hm:((gy n (l.take i):Nat):Int)*(n:Int)=((gy n (l.take i)*n:Nat):Int):=by rw [Int.natCast_mul]
 have hs:((gy n (l.take i)*n:Nat):Int)+v=((gy n (l.take (i+1)):Nat):Int):=by omega
 exact ⟨by rw [ri (by rw [hm];omega) (by rw [hm];omega),hm],by rw [g8 (by rw [hs];omega) (by rw [hs];omega),hs]⟩
def eV:List Int→List Int→Bool
 |a :: l,b :: m=>if a=b then eV l m else decide (a<b)
 |_,_=>false
structure Rel where
 name:bI
 arity:Int
 tuples:Sl (Sl Int)
structure dJ where
 size:Int
 rels:Sl Rel
def Be(p:Nat→Bool)(n:Nat):Bool:=(List.range n).all p
def jL(n k:Nat)(l:List (Sl Int))(i:Nat):Bool:=match l[i]? with
 |none=>true
 |some t=>decide (t.l.length=k)&&(gI n t.l&&(match i with
  |0=>true
  |j+1=>match l[j]? with
   |none=>true
   |some p=>eV p.l t.l))
def tc(n k:Nat)(l:List (Sl Int)):Bool:=Be (jL n k l) l.length
def lB(n:Nat)(r:Rel):Bool:=dZ r.name&&(decide (0≤r.arity)&&(decide (r.arity≤12)&&(decide (n ^ r.arity.toNat≤4096)&&tc n r.arity.toNat r.tuples.l)))
def mG(s:dJ)(i:Nat):Bool:=match s.rels.l[i]? with
 |none=>true
 |some r=>lB s.size.toNat r&&!((s.rels.l.take i).any fun q=>q.name==r.name)
def cT(s:dJ):Bool:=decide (1≤s.size)&&(decide (s.size≤64)&&(decide (s.rels.l.length≤8)&&Be (mG s) s.rels.l.length))
theorem Ei{b:Nat}{h:ag}{es:List Entry}{ck:Nat}{m:kB}(hb:h.get b=some (.map es ck))(hm:qh es m)(z:AV)(k:bI) :
  dB .string z false (.map b) (.str k) h=some ((m.find k).getD z):=by
 obtain ⟨r,hr,hm'⟩:=qh.iE (k:=k) 0 hm
 simp only [dB,jO,hb,nr,nq,if_true,hr]
 cases r with
 |none=>simp at hm';simp [hm']
 |some jv=>
  obtain ⟨n,_,b,_⟩:=hm'
  obtain ⟨j,v⟩:=jv
  simp [b]
def bv(b:Bool):AV:=.bool b
theorem CY{b i:Nat}{h:ag}{d:List Bool}{v:Bool}(hb:h.get b=some (.cells (d.map bv)))(hv:d[i]?=some v):ai none (.ptr b i) h=some (.bool v):=by
 rw [au hb,rf,List.getElem?_map,hv];rfl
theorem z6{b i:Nat}{h:ag}{d:List Bool}{v:Bool}(hb:h.get b=some (.cells (d.map bv)))(hi:i<d.length):bg 1 (.ptr b i) (.bool v) h=some (h.set b (.cells ((d.set i v).map bv))):=by
 rw [cZ (n:=1) hb rfl rfl (by simp;omega),List.map_set];rfl
theorem Nc(n:Nat):gY [.bool false] n=(List.replicate n false).map bv:=by
 induction n with
 |zero=>rfl
 |succ n ih=>rw [gY,ih];rfl
theorem CZ{n:Nat}(hn:n≤1000000)(h:ag):dy 1 1 [.bool false] (.int .i64 (n:Int)) (.int .i64 (n:Int)) h=some (.slice h.next 0 n 1,h.alloc (.cells ((List.replicate n false).map bv))):=by
 have:((n:Int))≤140737488355328:=by omega
 simp [dy,uQ,this,Nc]
def kF(n:Nat):List (Sl Int)→List Bool→List Bool
 |[],d=>d
 |t :: ts,d=>kF n ts (d.set (gy n t.l) true)
theorem BS{n:Nat}{l:List (Sl Int)}{i:Nat}{t:Sl Int}(ht:l[i]?=some t)(d:List Bool):kF n (l.drop i) d=kF n (l.drop (i+1)) (d.set (gy n t.l) true):=by
 have h1:=(List.getElem?_eq_some_iff.1 ht).1
 rw [List.drop_eq_getElem_cons h1]
 rw [List.getElem?_eq_getElem h1] at ht
 cases ht;rfl
theorem z7(n:Nat):∀ (l:List (Sl Int)) (d:List Bool),(kF n l d).length=d.length
 |[],_=>rfl
 |t :: l,d=>by rw [kF,z7 n l];simp
def bitsOf(n k:Nat)(ts:List (Sl Int)):List Bool:=kF n ts (List.replicate (n ^ k) false)
theorem oI(n k:Nat)(ts:List (Sl Int)):(bitsOf n k ts).length=n ^ k:=by rw [bitsOf,z7];simp
structure ei (D:bI→Option (Nat×List Bool)) (h:ag) (B lo:Nat):Prop where
 ex:∃ es ck m,h.get B=some (.map es ck)∧qh es m∧∀ nm,m.find nm=(D nm).map fun p=>.slice p.1 0 p.2.length 1
 blk:∀ nm p,D nm=some p→lo≤p.1∧p.1<h.next∧p.1≠B∧h.get p.1=some (.cells (p.2.map bv))
 inj:∀ nm nm' p p',D nm=some p→D nm'=some p'→p.1=p'.1→nm=nm'
 lt:B<h.next
theorem ei.ext{D:bI→Option (Nat×List Bool)}{h h':ag}{B lo:Nat}(b:ei D h B lo)(hx:bT h h'):ei D h' B lo:=by
 obtain ⟨es,ck,m,h1,h2,h3⟩:=b.ex
 refine ⟨⟨es,ck,m,by rw [hx.get _ b.lt];exact h1,h2,h3⟩,fun nm p hp=>?_,b.inj,Nat.lt_of_lt_of_le b.lt hx.next⟩
 obtain ⟨q1,q2,q3,q4⟩:=b.blk nm p hp
 exact ⟨q1,Nat.lt_of_lt_of_le q2 hx.next,q3,by rw [hx.get _ q2];exact q4⟩
def cJ(r:Rel):bI×Int×List (List Int):=(r.name,r.arity,r.tuples.l.map Sl.l)
abbrev FL:=bI×Int×List (List Int)
def FM(n:Nat)(ds:List FL)(nm:bI)(r:Nat):Prop:=∃ d ∈ ds,d.1=nm∧∃ u ∈ d.2.2,gy n u=r
def pF(d:FL):bI×Int:=(d.1,d.2.1)
def jw(D:bI→Option (Nat×List Bool))(nm:bI)(b:Nat)(d:List Bool):bI→Option (Nat×List Bool):=fun j=>if j=nm then some (b,d) else D j
theorem ei.set{D:bI→Option (Nat×List Bool)}{h:ag}{B lo:Nat}(H:ei D h B lo){nm:bI}{p:Nat×List Bool}(hp:D nm=some p){d:List Bool}(hd:d.length=p.2.length):ei (jw D nm p.1 d) (h.set p.1 (.cells (d.map bv))) B lo:=by
 obtain ⟨es,ck,m,h1,h2,h3⟩:=H.ex
 obtain ⟨k1,k2,k3,k4⟩:=H.blk nm p hp
 refine ⟨⟨es,ck,m,by rw [ag.aO,if_neg (Ne.symm k3)];exact h1,h2,fun j=>?_⟩,fun j q hq=>?_,fun j j' q q' hq hq' hqq=>?_,by rw [ag.next_set];exact H.lt⟩
 ·rw [h3];unfold jw
  by_cases e:j=nm
  ·subst e;rw [if_pos rfl,hp,Option.map_some,Option.map_some,hd]
  ·rw [if_neg e]
 ·unfold jw at hq
  by_cases e:j=nm
  ·rw [if_pos e] at hq;cases hq
   exact ⟨k1,by rw [ag.next_set];exact k2,k3,by rw [ag.aO,if_pos rfl]⟩
  ·rw [if_neg e] at hq
   obtain ⟨q1,q2,q3,q4⟩:=H.blk j q hq
   exact ⟨q1,by rw [ag.next_set];exact q2,q3,by rw [ag.aO,if_neg (fun e'=>e (H.inj j nm q p hq hp e'))];exact q4⟩
 ·unfold jw at hq hq'
  by_cases e:j=nm
  ·by_cases e':j'=nm
   ·rw [e,e']
   ·rw [if_pos e] at hq;rw [if_neg e'] at hq';cases hq
    exact absurd (H.inj nm j' p q' hp hq' hqq).symm e'
  ·by_cases e':j'=nm
   ·rw [if_neg e] at hq;rw [if_pos e'] at hq';cases hq'
    exact absurd (H.inj j nm q p hq hp hqq) e
   ·rw [if_neg e] at hq;rw [if_neg e'] at hq';exact H.inj j j' q q' hq hq' hqq
end
end Go.AM
namespace Go.AM
open Go Go.Proofs
noncomputable section
theorem FN{S n:Nat}{R:AV}{h:ag}(hS:h.get S=some (.cells [.int .i64 (n:Int),R]))(h1:1≤n){x:Sl Int}(hx:x.l.length≤12)(hc:n ^ x.l.length≤4096)(hb:gI n x.l=true){K:Out→ag→Bool}
  (hK:K (.ret (.int .i64 ((gy n x.l:Nat):Int))) h=true):Sem Tryz.prog 69 [.ptr S 0,an encI 1 x] h K:=by
 have hbig:x.l.length≤cz:=by unfold cz;omega
 refine F.kV ?_
 simp only [aV,Nat.reduceAdd,Nat.reduceEqDiff,reduceIte]
 refine aB 0 x.l.length (Nat.zero_le _) (fun i e h'=>h'=h∧e 0 = .ptr S 0∧e 5 = .int .i64 ((gy n (x.l.take i):Nat):Int)∧e 8=an encI 1 x∧e 9 = .int .i64 (x.l.length:Int)∧e 10 = .int .i64 (i:Int)) ⟨rfl,rfl,rfl,rfl,rfl,rfl⟩ ?_ ?_
 ·rintro i e h' _ hi ⟨rfl,e0,e5,e8,e9,e10⟩ K' hn hx' hr hp
  have hv:x.l[i]?=some x.l[i]:=List.getElem?_eq_getElem hi
  rw [F.cE.aN]
  simp only [e0,e5,e8,e9,e10,aV,Nat.reduceAdd,Nat.reduceEqDiff,reduceIte,cm,au hS,aY hi,aP x hi,fF hv,(kY hb h1 hc hv).1,(kY hb h1 hc hv).2,aE hi hbig]
  exact hn _ _ ⟨rfl,e0,rfl,e8,e9,rfl⟩
 ·rintro e h' ⟨rfl,e0,e5,e8,e9,e10⟩ K' hx'
  rw [F.cE.aN]
  simp only [e9,e10,aV,Nat.reduceAdd,Nat.reduceEqDiff,reduceIte,aR]
  rw [hx',F.cE.aD]
  simp only [e5,bu,Nat.reduceEqDiff,reduceIte]
  rw [List.take_of_length_le (Nat.le_refl _)]
  exact hK
def bw(vs:List Int)(ps:List Nat):List Int:=ps.map fun p=>vs.getD p 0
theorem GO{V n:Nat}{vs:List Int}{h:ag}(hV:h.get V=some (.cells (vs.map iv)))(hVn:V<h.next)(hn:n=vs.length){ps:List Nat}{x:Sl Int}(hxp:x.l=ps.map fun (p:Nat)=>(p:Int))(hps:∀ p ∈ ps,p<vs.length)(hpl:ps.length≤1000000){K:Out→ag→Bool}
  (hK:∀ h',h'.get h.next=some (.cells ((bw vs ps).map iv))→bT h h'→h.next<h'.next→K (.ret (.slice h.next 0 ps.length 1)) h'=true):Sem Tryz.prog 124 [.slice V 0 n 1,an encI 1 x] h K:=by
 subst hn
 have hpb:ps.length≤cz:=by unfold cz;omega
 have hl:x.l.length=ps.length:=by rw [hxp];simp
 refine F.zu ?_
 simp only [aV,Nat.reduceAdd,Nat.reduceEqDiff,reduceIte,hl,ry hpl]
 have g0:=aC h (.cells ((List.replicate ps.length (0:Int)).map iv))
 have x0:=bT.alloc h (.cells ((List.replicate ps.length (0:Int)).map iv))
 have n0:(h.alloc (.cells ((List.replicate ps.length (0:Int)).map iv))).next=h.next+1:=ag.next_alloc _ _
 generalize h.alloc (.cells ((List.replicate ps.length (0:Int)).map iv))=H at g0 x0 n0 ⊢
 refine aB 0 ps.length (Nat.zero_le _) (fun i e h'=>∃ d:List Int,d.length=ps.length∧d.take i=(bw vs ps).take i∧h'.get h.next=some (.cells (d.map iv))∧bT h h'∧h.next<h'.next ∧
  e 0 = .slice V 0 vs.length 1∧e 5 = .slice h.next 0 ps.length 1∧e 11=an encI 1 x∧e 12 = .int .i64 (ps.length:Int)∧e 13 = .int .i64 (i:Int)) ⟨List.replicate ps.length 0,by simp,rfl,g0,x0,by omega,rfl,rfl,rfl,rfl,rfl⟩ ?_ ?_
 ·rintro i e h' _ hi ⟨d,dl,dt,q0,qx,qn,e0,e5,e11,e12,e13⟩ K' hn hx hr hp
  have hv:ps[i]?=some ps[i]:=List.getElem?_eq_getElem hi
  generalize ps[i]=p at hv
  have hv':x.l[i]?=some (p:Int):=by rw [hxp,List.getElem?_map,hv];rfl
  have hpv:=hps p (List.mem_of_getElem? hv)
  have hw:vs[p]?=some (vs.getD p 0):=by rw [List.getD_eq_getElem?_getD,List.getElem?_eq_getElem hpv];rfl
  have qV:h'.get V=some (.cells (vs.map iv)):=by rw [qx.get V hVn];exact hV
  have i1:=aP (enc:=encI) (sz:=1) (k:=.i64) x (i:=i) (by rw [hl];exact hi)
  have l1:=fun h=>fF (x:=x) hv' (h:=h)
  rw [F.fN.aN]
  simp only [e0,e5,e11,e12,e13,aV,Nat.reduceAdd,Nat.reduceEqDiff,reduceIte,aY hi,i1,l1,jT hpv,jU qV hw,jT hi,mC q0 (show i<d.length by omega),aE hi hpb]
  refine hn _ _ ⟨d.set i (vs.getD p 0),by simp [dl],?_,by rw [ag.aO,if_pos rfl],qx.set (Nat.le_refl _) _,by rw [ag.next_set];exact qn,e0,e5,e11,e12,rfl⟩
  have hpk:(bw vs ps)[i]?=some (vs.getD p 0):=by unfold bw;rw [List.getElem?_map,hv];rfl
  rw [List.take_add_one,List.take_add_one,hpk,List.take_set_of_le (Nat.le_refl _),dt,List.getElem?_set,if_pos rfl,if_pos (by omega)]
 ·rintro e h' ⟨d,dl,dt,q0,qx,qn,e0,e5,e11,e12,e13⟩ K' hx
  rw [F.fN.aN]
  simp only [e12,e13,aV,Nat.reduceAdd,Nat.reduceEqDiff,reduceIte,aR]
  rw [hx,F.fN.aD]
  simp only [e5,bu,Nat.reduceEqDiff,reduceIte]
  have:d=bw vs ps:=by
   have h1:d.take ps.length=d:=List.take_of_length_le (by omega)
   have h2:(bw vs ps).take ps.length=bw vs ps:=List.take_of_length_le (by simp [bw])
   rw [← h1,dt,h2]
  rw [this] at q0
  exact hK h' q0 qx qn
end
end Go.AM
namespace Go.AM
open Go Go.Proofs
noncomputable section
theorem wN{S n T:Nat}{R:AV}{h:ag}(hS:h.get S=some (.cells [.int .i64 (n:Int),R]))(h1:1≤n){t:List Int}(hT:h.get T=some (.cells (t.map iv)))(hx:t.length≤12)(hc:n ^ t.length≤4096)(hb:gI n t=true){K:Out→ag→Bool}
  (hK:K (.ret (.int .i64 ((gy n t:Nat):Int))) h=true):Sem Tryz.prog 69 [.ptr S 0,.slice T 0 t.length 1] h K:=by
 have hbig:t.length≤cz:=by unfold cz;omega
 have hl:∀ h,bx .slice (.slice T 0 t.length 1) h=some (.int .i64 (t.length:Int)):=fun _=>rfl
 refine F.kV ?_
 simp only [aV,Nat.reduceAdd,Nat.reduceEqDiff,reduceIte,hl]
 refine aB 0 t.length (Nat.zero_le _) (fun i e h'=>h'=h∧e 0 = .ptr S 0∧e 5 = .int .i64 ((gy n (t.take i):Nat):Int)∧e 8 = .slice T 0 t.length 1∧e 9 = .int .i64 (t.length:Int)∧e 10 = .int .i64 (i:Int)) ⟨rfl,rfl,rfl,rfl,rfl,rfl⟩ ?_ ?_
 ·rintro i e h' _ hi ⟨rfl,e0,e5,e8,e9,e10⟩ K' hn hx' hr hp
  have hv:t[i]?=some t[i]:=List.getElem?_eq_getElem hi
  rw [F.cE.aN]
  simp only [e0,e5,e8,e9,e10,aV,Nat.reduceAdd,Nat.reduceEqDiff,reduceIte,cm,au hS,aY hi,jT hi,jU hT hv,(kY hb h1 hc hv).1,(kY hb h1 hc hv).2,aE hi hbig]
  exact hn _ _ ⟨rfl,e0,rfl,e8,e9,rfl⟩
 ·rintro e h' ⟨rfl,e0,e5,e8,e9,e10⟩ K' hx'
  rw [F.cE.aN]
  simp only [e9,e10,aV,Nat.reduceAdd,Nat.reduceEqDiff,reduceIte,aR]
  rw [hx',F.cE.aD]
  simp only [e5,bu,Nat.reduceEqDiff,reduceIte]
  rw [List.take_of_length_le (Nat.le_refl _)]
  exact hK
def eG(D:bI→Option (Nat×List Bool))(nm:bI)(r:Nat):Bool:=match D nm with|some p=>p.2.getD r false|none=>false
theorem ei.look{D:bI→Option (Nat×List Bool)}{h:ag}{B lo:Nat}(b:ei D h B lo){nm:bI}{p:Nat×List Bool}(hp:D nm=some p):dB .string .nils false (.map B) (.str nm) h=some (.slice p.1 0 p.2.length 1):=by
 obtain ⟨es,ck,m,h1,h2,h3⟩:=b.ex
 rw [Ei h1 h2,h3,hp];rfl
def dD(n:Nat)(look:bI→Nat→Bool)(c:eN)(t:List Int):Bool:=
 (if c.kind=0 then look c.name (gy n t) else if c.kind=1 then decide (t.getD 0 0=t.getD 1 0) else decide (t.getD 0 0<t.getD 1 0)) != c.neg
theorem Ej{S B n lo T:Nat}{D:bI→Option (Nat×List Bool)}{h:ag}(hS:h.get S=some (.cells [.int .i64 (n:Int),.map B]))(hD:ei D h B lo)(n1:1≤n){c:eN}{t:List Int}(hT:h.get T=some (.cells (t.map iv)))(hTn:T<h.next)(hSn:S<h.next)
  (ht:t.length≤12) (hb:gI n t=true) (hc:c.kind=0→n ^ t.length≤4096∧∃ p,D c.name=some p∧p.2.length=n ^ t.length) (hk:c.kind=1∨c.kind=2→t.length=2) (hkk:c.kind=0∨c.kind=1∨c.kind=2) {K:Out→ag→Bool}
  (hK:∀ h',bT h h'→K (.ret (.bool (dD n (eG D) c t))) h'=true):Sem Tryz.prog 129 [.ptr S 0,.agg [.int .i64 c.kind,.bool c.neg,.str c.name,an encS 1 c.args],.slice T 0 t.length 1] h K:=by
 refine F.oZ ?_
 have hbx:cK (.agg [.int .i64 c.kind,.bool c.neg,.str c.name,an encS 1 c.args])=some (b6 c):=cY (gN c)
 have g0:(ag.alloc h (.cells (b6 c))).get h.next=some (.cells (b6 c)):=aC _ _
 have gx:bT h (ag.alloc h (.cells (b6 c))):=bT.alloc _ _
 simp only [hbx,bindO_some]
 generalize (ag.alloc h (.cells (b6 c)))=H at g0 gx ⊢
 have gS:H.get S=some (.cells [.int .i64 (n:Int),.map B]):=by rw [gx.get S hSn];exact hS
 have gT:H.get T=some (.cells (t.map iv)):=by rw [gx.get T hTn];exact hT
 have gD:=hD.ext gx
 simp only [aV,Nat.reduceAdd,Nat.reduceEqDiff,reduceIte,au g0,b6,cQ]
 by_cases k0:c.kind=0
 ·obtain ⟨hpow,p,hp,hpl⟩:=hc k0
  have hrk:gy n t<p.2.length:=by rw [hpl];exact kE hb
  have hbit:p.2[gy n t]?=some (p.2.getD (gy n t) false):=by rw [List.getD_eq_getElem?_getD,List.getElem?_eq_getElem hrk];rfl
  obtain ⟨_,_,_,gp⟩:=gD.blk c.name p hp
  simp only [decide_eq_true k0,aI,aV,Nat.reduceAdd,Nat.reduceEqDiff,reduceIte,cm,au gS,au g0,b6,gD.look hp]
  refine ak (wN gS n1 gT ht hpow hb ?_)
  simp only [aV,Nat.reduceAdd,Nat.reduceEqDiff,reduceIte,au gS,au g0,b6,gD.look hp,AV.beq_refl,Bool.and_self,Bool.and_true,if_true,jT hrk,CY gp hbit,yj]
  have hv:dD n (eG D) c t = !(p.2.getD (gy n t) false==c.neg):=by unfold dD eG;rw [if_pos k0,hp];rfl
  rw [← hv]
  exact hK H gx
 ·have h2:t.length=2:=hk (hkk.resolve_left k0)
  have v0:t[0]?=some (t.getD 0 0):=by rw [List.getD_eq_getElem?_getD,List.getElem?_eq_getElem (by omega:0<t.length)];rfl
  have v1:t[1]?=some (t.getD 1 0):=by rw [List.getD_eq_getElem?_getD,List.getElem?_eq_getElem (by omega:1<t.length)];rfl
  have i0:cL 1 (.slice T 0 t.length 1) (.int .i64 0)=some (.ptr T 0):=jT (i:=0) (by omega)
  have i1:cL 1 (.slice T 0 t.length 1) (.int .i64 1)=some (.ptr T 1):=jT (i:=1) (by omega)
  simp only [decide_eq_false k0,aG]
  by_cases k1:c.kind=1
  ·simp only [decide_eq_true k1,aI,i0,i1,jU gT v0,jU gT v1,aV,Nat.reduceAdd,Nat.reduceEqDiff,reduceIte,au g0,b6,cQ,yj]
   have hv:dD n (eG D) c t = !(decide (t.getD 0 0=t.getD 1 0)==c.neg):=by unfold dD;rw [if_neg k0,if_pos k1];rfl
   rw [← hv]
   exact hK H gx
  ·have k2:c.kind=2:=(hkk.resolve_left k0).resolve_left k1
   simp only [decide_eq_false k1,aG,decide_eq_true k2,aI,i0,i1,jU gT v0,jU gT v1,aV,Nat.reduceAdd,Nat.reduceEqDiff,reduceIte,au g0,b6,yj]
   have hv:dD n (eG D) c t = !(decide (t.getD 0 0<t.getD 1 0)==c.neg):=by unfold dD;rw [if_neg k0,if_neg k1];rfl
   rw [← hv]
   exact hK H gx
end
end Go.AM
namespace Go.AM
open Go Go.Proofs
noncomputable section
theorem HJ{x:Sl bI}{s:bI}(hx:x.l.length≤cz)(hs:s ∈ x.l){h:ag}{K:Out→ag→Bool}(hK:K (.ret (.int .i64 (x.l.idxOf s:Int))) h=true):Sem Tryz.prog 157 [an encS 1 x,.str s] h K:=by
 refine F.gu ?_
 simp only [aV,Nat.reduceAdd,Nat.reduceEqDiff,reduceIte]
 refine aB 0 x.l.length (Nat.zero_le _) (fun i e h'=>h'=h∧e 0=an encS 1 x∧e 1 = .str s∧e 7 = .int .i64 (x.l.length:Int)∧e 8 = .int .i64 (i:Int)∧i≤x.l.idxOf s) ⟨rfl,rfl,rfl,rfl,rfl,Nat.zero_le _⟩ ?_ ?_
 ·rintro i e h' _ hi ⟨rfl,e0,e1,e7,e8,ht⟩ K' hn hx' hr hp'
  have hv:x.l[i]?=some x.l[i]:=List.getElem?_eq_getElem hi
  have hlt:x.l.idxOf s<x.l.length:=List.idxOf_lt_length_of_mem hs
  rw [F.bp.aN]
  simp only [e0,e1,e7,e8,aV,Nat.reduceAdd,Nat.reduceEqDiff,reduceIte,aY hi,aP x hi,fW hv,mW]
  by_cases hq:s=x.l[i]
  ·simp only [decide_eq_true hq,aI]
   rw [hr,F.bp.bq]
   have:x.l.idxOf s=i:=by
    refine Nat.le_antisymm ?_ ht
    refine Nat.le_of_not_lt fun h=>?_
    have h2:=List.not_of_lt_findIdx (p:=fun a=>a==s) (xs:=x.l) (i:=i) h
    simp [← hq] at h2
   rw [this] at hK;exact hK
  ·simp only [decide_eq_false hq,aG,aE hi hx,bindO_some]
   refine hn _ _ ⟨rfl,e0,e1,e7,rfl,?_⟩
   refine Nat.lt_of_le_of_ne ht fun h=>?_
   have h3:x.l[x.l.idxOf s]=s:=List.getElem_idxOf hlt
   exact hq (by rw [← h3];congr 1;exact h.symm)
 ·rintro e h' ⟨rfl,e0,e1,e7,e8,ht⟩ K' hx'
  have hlt:x.l.idxOf s<x.l.length:=List.idxOf_lt_length_of_mem hs
  omega
def placesOf(vars xs:List bI):List Nat:=xs.map fun s=>vars.idxOf s
theorem Ek{V:Nat}{h:ag}{vars xs:Sl bI}(hV:h.get V=some (.cells [an encS 1 vars]))(hVn:V<h.next)(hall:∀ s ∈ xs.l,s ∈ vars.l)(hx:xs.l.length≤1000000)(hv:vars.l.length≤cz){K:Out→ag→Bool}
  (hK:∀ a h',Own encI 1 h.next h' a ((placesOf vars.l xs.l).map fun (p:Nat)=>(p:Int))→bT h h'→K (.ret a) h'=true):Sem Tryz.prog 156 [an encS 1 xs,.ptr V 0] h K:=by
 have hxb:xs.l.length≤cz:=by unfold cz;omega
 refine F.sU ?_
 simp only [aV,Nat.reduceAdd,Nat.reduceEqDiff,reduceIte]
 refine aB 0 xs.l.length (Nat.zero_le _) (fun i e h'=>∃ a,Own encI 1 h.next h' a ((placesOf vars.l (xs.l.take i)).map fun (p:Nat)=>(p:Int))∧bT h h'∧e 1 = .ptr V 0∧e 4=a∧e 7=an encS 1 xs∧e 8 = .int .i64 (xs.l.length:Int)∧e 9 = .int .i64 (i:Int)) ⟨.nils,.nil,bT.refl _,rfl,rfl,rfl,rfl,rfl⟩ ?_ ?_
 ·rintro i e h' _ hi ⟨a,o,qx,e1,e4,e7,e8,e9⟩ K' hn hx' hr hp
  have hs:xs.l[i]?=some xs.l[i]:=List.getElem?_eq_getElem hi
  generalize xs.l[i]=s at hs
  have qV:h'.get V=some (.cells [an encS 1 vars]):=by rw [qx.get V hVn];exact hV
  rw [F.dW.aN]
  simp only [e1,e4,e7,e8,e9,aV,Nat.reduceAdd,Nat.reduceEqDiff,reduceIte,aY hi,aP xs hi,fW hs,au qV]
  refine ak (HJ hv (hall s (List.mem_of_getElem? hs)) ?_)
  obtain ⟨a2,h2,p1,p2,p3,p4,p5,p6⟩:=o.push kT Eg qx.next (bytes:=8) (by have:=List.length_take_le i xs.l;simp only [placesOf,List.length_map];unfold cX;omega) (vars.l.idxOf s:Int)
  simp only [aV,Nat.reduceAdd,Nat.reduceEqDiff,reduceIte,e4,Jk,p1,e9,aE hi hxb]
  refine hn _ _ ⟨a2,?_,p5 h qx (Nat.le_refl _),e1,rfl,e7,e8,rfl⟩
  have:placesOf vars.l (xs.l.take (i+1))=placesOf vars.l (xs.l.take i)++[vars.l.idxOf s]:=by unfold placesOf;rw [List.take_add_one,hs];simp
  rw [this];simpa using p2
 ·rintro e h' ⟨a,o,qx,e1,e4,e7,e8,e9⟩ K' hx'
  rw [F.dW.aN]
  simp only [e8,e9,aV,Nat.reduceAdd,Nat.reduceEqDiff,reduceIte,aR]
  rw [hx',F.dW.aD]
  rw [List.take_of_length_le (Nat.le_refl _)] at o
  simp only [e4,bu,Nat.reduceEqDiff,reduceIte]
  exact hK a h' o qx
end
end Go.AM
namespace Go.AM
open Go Go.Proofs
noncomputable section
abbrev RW:=Option (Nat×List Int)
def RW.av:RW→AV
 |none=>.nils
 |some p=>.slice p.1 0 p.2.length 1
def RW.l:RW→List Int
 |none=>[]
 |some p=>p.2
def uB(w:RW):List AV:=[w.av]
theorem El(w:RW):(uB w).length=1:=rfl
theorem Jp(w:RW):bL (uB w)=true:=by cases w<;>rfl
theorem Qs(w:RW):eF [.nils] [(0,1)] [w.av]=some (uB w):=by cases w<;>rfl
theorem Jq{k:Nat}{h:ag}{a:AV}{l:List Int}(o:Own encI 1 k h a l):∃ w:RW,a=w.av∧w.l=l∧∀ p,w=some p→k≤p.1∧p.1<h.next∧h.get p.1=some (.cells (p.2.map iv)):=by
 cases o with
 |nil=>exact ⟨none,rfl,rfl,fun p hp=>by cases hp⟩
 |row b l h1 h2 h3=>exact ⟨some (b,l),rfl,rfl,fun p hp=>by cases hp;exact ⟨h1,h2,by rw [oE];exact h3⟩⟩
theorem row_one{α:Type}{enc:α→List AV}{sz:Nat}(he:∀ x,(enc x).length=sz){h:ag}{b:Nat}{v:α}(hb:h.get b=some (.cells (enc v))):Row enc sz h (.slice b 0 1 sz) [v]:=by
 refine ⟨rfl,?_⟩
 have hl:(enc v).length=sz:=he v
 simp only [fT,hb,if_true,List.length_singleton,Nat.one_mul,Nat.zero_add,hl,Nat.le_refl,List.drop_zero]
 rw [← hl,List.take_length];simp
structure Dg (k:Nat) (h:ag) (cW lW:AV) (ws:List RW) (ls:List Int) (held:List RW):Prop where
 oc:Own uB 1 k h cW ws
 ol:Own encI 1 k h lW ls
 ok:∀ w ∈ held,∀ p,w=some p→k≤p.1∧p.1<h.next∧h.get p.1=some (.cells (p.2.map iv))∧dV cW≠some p.1∧dV lW≠some p.1
 sep:∀ b,dV cW=some b→dV lW≠some b
theorem Dg.ext{k:Nat}{h h':ag}{cW lW:AV}{ws:List RW}{ls:List Int}{held:List RW}(t:Dg k h cW lW ws ls held)(hx:bT h h'):Dg k h' cW lW ws ls held:=
 ⟨t.oc.ext hx,t.ol.ext hx,fun w hw p hp=>by
  obtain ⟨q1,q2,q3,q4⟩:=t.ok w hw p hp
  exact ⟨q1,Nat.lt_of_lt_of_le q2 hx.next,by rw [hx.get _ q2];exact q3,q4⟩,t.sep⟩
theorem Dg.hold{k:Nat}{h:ag}{cW lW:AV}{ws:List RW}{ls:List Int}{held:List RW}(t:Dg k h cW lW ws ls held){w:RW}{j:Nat}(hj:∀ p,w=some p→j≤p.1∧k≤p.1∧p.1<h.next∧h.get p.1=some (.cells (p.2.map iv)))
  (hc:∀ b,dV cW=some b→b<j) (hl:∀ b,dV lW=some b→b<j):Dg k h cW lW ws ls (held++[w]):=
 ⟨t.oc,t.ol,fun v hv p hp=>by
  rcases List.mem_append.1 hv with hv|hv
  ·exact t.ok v hv p hp
  ·rw [List.mem_singleton] at hv;subst hv
   obtain ⟨q1,q2,q3,q4⟩:=hj p hp
   exact ⟨q2,q3,q4,fun h=>by have:=hc _ h;omega,fun h=>by have:=hl _ h;omega⟩,t.sep⟩
theorem Dg.low{k:Nat}{h:ag}{cW lW:AV}{ws:List RW}{ls:List Int}{held:List RW}(t:Dg k h cW lW ws ls held){d:Nat}(hd:d<k)(x:jl):Dg k (h.set d x) cW lW ws ls held:=
 ⟨t.oc.lp hd x,t.ol.lp hd x,fun w hw p hp=>by
  obtain ⟨q1,q2,q3,q4⟩:=t.ok w hw p hp
  exact ⟨q1,by rw [ag.next_set];exact q2,by rw [ag.aO,if_neg (by omega)];exact q3,q4⟩,t.sep⟩
theorem Dg.push{k:Nat}{h:ag}{cW lW:AV}{ws:List RW}{ls:List Int}{held:List RW}(t:Dg k h cW lW ws ls held)(hk:k≤h.next)(hw:ws.length≤1000000)(hl:ls.length≤1000000)(w:RW)(x:Int) :
  ∃ c' l' h2 h3,bW 1 24 cW (.slice h.next 0 1 1) ((h.alloc (.cells (uB w))).alloc (.cells (encI x)))=some (c',h2)∧bW 1 8 lW (.slice (h.next+1) 0 1 1) h2=some (l',h3) ∧
   Dg k h3 c' l' (ws++[w]) (ls++[x]) held∧(∀ c,c<k→h2.get c=h.get c∧h3.get c=h.get c)∧h.next≤h3.next:=by
 have g0:((h.alloc (.cells (uB w))).alloc (.cells (encI x))).get h.next=some (.cells (uB w)):=by
  rw [ag.aW,ag.next_alloc,if_neg (by omega)];exact aC _ _
 have g1:((h.alloc (.cells (uB w))).alloc (.cells (encI x))).get (h.next+1)=some (.cells (encI x)):=aC _ _
 have gx:bT h ((h.alloc (.cells (uB w))).alloc (.cells (encI x))):=(bT.alloc _ _).trans (bT.alloc _ _)
 have gn:((h.alloc (.cells (uB w))).alloc (.cells (encI x))).next=h.next+2:=rfl
 generalize ((h.alloc (.cells (uB w))).alloc (.cells (encI x)))=H at g0 g1 gx gn ⊢
 have tH:=t.ext gx
 have cge:∀ b,dV cW=some b→k≤b∧b<h.next:=fun b hb=>⟨t.oc.ge hb,t.oc.lt hb⟩
 have lge:∀ b,dV lW=some b→k≤b∧b<h.next:=fun b hb=>⟨t.ol.ge hb,t.ol.lt hb⟩
 obtain ⟨c',h2,p1,p2,p3,p4,p5⟩:=tH.oc.append El Jp (row_one El g0) (by omega) (bytes:=24) (by simp only [List.length_singleton];unfold cX;omega)
 have cnew:=p5 (by simp)
 have e1:h2.get (h.next+1)=some (.cells (encI x)):=by rw [p3 _ (by omega) (fun hb=>by have:=(cge _ hb).2;omega)];exact g1
 have ol2:Own encI 1 k h2 lW ls:=by
  have o:=tH.ol
  cases o with
  |nil=>exact .nil
  |row b l q1 q2 q3=>exact .row b _ q1 (by omega) (by rw [p3 b q2 (fun hb=>t.sep b hb rfl)];exact q3)
 obtain ⟨l',h3,r1,r2,r3,r4,r5⟩:=ol2.append kT Eg (row_one kT e1) (by omega) (bytes:=8) (by simp only [List.length_singleton];unfold cX;omega)
 have lnew:=r5 (by simp)
 have oc3:Own uB 1 k h3 c' (ws++[w]):=by
  generalize hL:ws++[w]=L at p2
  cases p2 with
  |nil=>exact .nil
  |row b l q1 q2 q3=>exact .row b _ q1 (by omega) (by rw [r3 b q2 (fun hb=>by have:=(lge _ hb).2;have:=cnew b rfl;omega)];exact q3)
 refine ⟨c',l',h2,h3,p1,r1,⟨oc3,r2,fun v hv p hp=>?_,fun b hb hb'=>?_⟩,fun c hc=>?_,by omega⟩
 ·obtain ⟨q1,q2,q3,q4,q5⟩:=t.ok v hv p hp
  have a1:h2.get p.1=some (.cells (p.2.map iv)):=by rw [p3 _ (by omega) q4,gx.get _ q2];exact q3
  refine ⟨q1,by omega,by rw [r3 _ (by omega) q5];exact a1,fun h=>by have:=cnew _ h;omega,fun h=>by have:=lnew _ h;omega⟩
 ·have:=p2.lt hb
  have:=lnew b hb'
  omega
 ·have a1:h2.get c=h.get c:=by rw [p3 c (by omega) (fun hb=>by have:=(cge _ hb).1;omega),gx.get c (by omega)]
  exact ⟨a1,by rw [r3 c (by omega) (fun hb=>by have:=(lge _ hb).1;omega)];exact a1⟩
theorem Jr:∀ ws:List RW,ws.flatMap uB=ws.map RW.av
 |[]=>rfl
 |w :: ws=>by rw [List.flatMap_cons,List.map_cons,Jr ws];rfl
theorem Js:∀ ws:List RW,(ws.map fun w=>(w.map (·.2):Sl Int)).flatMap er=ws.map fun w=>an encI 1 (w.map (·.2))
 |[]=>rfl
 |w :: ws=>by rw [List.map_cons,List.flatMap_cons,List.map_cons,Js ws];rfl
theorem Dg.tD{k:Nat}{h:ag}{cW lW:AV}{ws:List RW}{ls:List Int}{held:List RW}(t:Dg k h cW lW ws ls held)(hs:∀ w ∈ ws,w ∈ held):∃ x:Sl (Sl Int),x.l.map Sl.l=ws.map RW.l∧Fz true h cW (an er 1 x):=by
 have hrow:∀ w ∈ held,Fz true h w.av (an encI 1 (w.map (·.2))):=fun w hw=>by
  cases w with
  |none=>exact .cU rfl
  |some p=>exact lN (t.ok _ hw p rfl).2.2.1
 obtain ⟨o,_,_,_⟩:=t
 cases o with
 |nil=>exact ⟨none,rfl,.cU rfl⟩
 |row b ws h1 h2 h3=>
  refine ⟨some (ws.map fun w=>(w.map (·.2):Sl Int)),?_,?_⟩
  ·simp only [Sl.l_some,List.map_map]
   refine List.map_congr_left fun w _=>?_
   cases w<;>rfl
  ·have e1:=Jr ws
   have e2:=Js ws
   rw [e1] at h3
   have hf:Fz true h (.slice b 0 ws.length 1) (.islice (ws.map fun w=>an encI 1 (w.map (·.2))) 0 ws.length 1):=by
    refine .slice b 0 ws.length 1 _ _ h3 (by simp) fun i x y hx hy=>?_
    rw [List.getElem?_map] at hx hy
    obtain ⟨w,hw,rfl⟩:=Option.map_eq_some_iff.1 hx
    rw [hw] at hy;cases hy
    exact hrow w (hs w (List.mem_of_getElem? hw))
   have:an er 1 (some (ws.map fun w=>(w.map (·.2):Sl Int))) = .islice (ws.map fun w=>an encI 1 (w.map (·.2))) 0 ws.length 1:=by
    simp only [an,e2,List.length_map]
   rw [this];exact hf
end
end Go.AM
namespace Go.AM
open Go Go.Proofs
noncomputable section
def jX(xs:List bI):Bool:=xs.all dZ&&decide (xs.length≤12)
theorem dr{x:Sl bI}(hx:x.l.length≤cz){h:ag}{K:Out→ag→Bool}(hK:K (.ret (.bool (jX x.l))) h=true):Sem Tryz.prog 134 [an encS 1 x] h K:=by
 refine F.xk ?_
 refine aB 0 x.l.length (Nat.zero_le _) (fun i e h'=>h'=h∧e 0=an encS 1 x∧e 3 = .int .i64 (i:Int)∧(x.l.take i).all dZ=true) ⟨rfl,rfl,rfl,rfl⟩ ?_ ?_
 ·rintro i e h' _ hi ⟨rfl,e0,e3,ht⟩ K' hn hx' hr hp'
  have hv:x.l[i]?=some x.l[i]:=List.getElem?_eq_getElem hi
  generalize x.l[i]=s at hv
  rw [F.dr.aN]
  simp only [e0,e3,aV,Nat.reduceAdd,Nat.reduceEqDiff,reduceIte,aY hi,aP x hi,fW hv]
  refine ak (dO ?_)
  simp only [aV,Nat.reduceAdd,Nat.reduceEqDiff,reduceIte]
  cases hq:dZ s with
  |false=>
   simp only [Bool.not_false,aI]
   rw [hr,F.dr.bq]
   have:jX x.l=false:=by unfold jX;rw [all_false hv hq,Bool.false_and]
   rw [this] at hK;exact hK
  |true=>
   simp only [Bool.not_true,aG,aE hi hx,bindO_some]
   exact hn _ _ ⟨rfl,e0,rfl,gJ hv ht hq⟩
 ·rintro e h' ⟨rfl,e0,e3,ht⟩ K' hx'
  rw [F.dr.aN]
  simp only [e0,e3,aV,Nat.reduceAdd,Nat.reduceEqDiff,reduceIte,aR]
  rw [hx',F.dr.aD]
  simp only [e0,aV,Nat.reduceAdd,Nat.reduceEqDiff,reduceIte]
  rw [List.take_of_length_le (Nat.le_refl _)] at ht
  have:jX x.l=decide ((x.l.length:Int)≤12):=by unfold jX;rw [ht,Bool.true_and];by_cases h:x.l.length≤12<;>simp<;>omega
  rw [this] at hK;exact hK
def qw(r:aK):List bI:=r.args.l++r.body.l.flatMap fun c=>c.args.l
theorem r8(o a b:List bI):ey o (a++b)=ey (ey o a) b:=by unfold ey;rw [List.foldl_append]
theorem r9:∀ (cs:List eN) (o:List bI),iV o cs=ey o (cs.flatMap fun c=>c.args.l)
 |[],o=>rfl
 |c :: cs,o=>by
  rw [List.flatMap_cons,r8]
  exact r9 cs (ey o c.args.l)
theorem td(r:aK):varsOf r=ey [] (qw r):=by
 unfold varsOf qw;rw [r8,r9]
theorem Em{r:aK}(hf:r.kX)(i:Nat):(r.args.l++(r.body.l.take i).flatMap fun c=>c.args.l).length≤3000000:=by
 have:∀ (cs:List eN),(∀ c ∈ cs,c.args.l.length≤1500)→(cs.flatMap fun c=>c.args.l).length≤cs.length*1500:=by
  intro cs
  induction cs with
  |nil=>intro _;simp
  |cons c cs ih=>
   intro h
   have h1:=ih fun d hd=>h d (List.mem_cons_of_mem _ hd)
   have h2:=h c List.mem_cons_self
   rw [List.flatMap_cons,List.length_append,List.length_cons];omega
 have h1:=this (r.body.l.take i) fun c hc=>hf.2.2 c (List.mem_of_mem_take hc)
 have h2:=List.length_take_le i r.body.l
 have h4:=List.length_take_le' i r.body.l
 have:=hf.1;have:=hf.2.1
 rw [List.length_append];omega
theorem bF{r:aK}(hf:r.kX){h:ag}{K:Out→ag→Bool}(hK:∀ x:Sl bI,x.l=varsOf r→K (.ret (an encS 1 x)) h=true) :
  Sem Tryz.prog 44 [.agg [.str r.name,an encS 1 r.args,an b6 4 r.body]] h K:=by
 have hbb:r.body.l.length≤cz:=by have:=hf.2.1;unfold cz;omega
 have main:Sem Tryz.prog 44 [.agg [.str r.name,an encS 1 r.args,an b6 4 r.body]] ag.empty (fun o h'=>yes (∃ v,∃ x:Sl bI,o = .ret v∧x.l=varsOf r∧Fz true h' v (an encS 1 x))):=by
  refine F.rL ?_
  have hb:cK (.agg [.str r.name,an encS 1 r.args,an b6 4 r.body])=some (aM r):=cY (iz r)
  have hrow:eF [] [] []=some []:=rfl
  simp only [hb,hrow,bindO_some,bG,ag.next_alloc]
  have g0:(ag.alloc (ag.alloc ag.empty (.cells (aM r))) (.cells [])).get 0=some (.cells (aM r)):=by simp [ag.aW,bG]
  have g1:(ag.alloc (ag.alloc ag.empty (.cells (aM r))) (.cells [])).get 1=some (.cells (([]:List bI).flatMap encS)):=by simp [ag.aW,bG]
  have gn:(ag.alloc (ag.alloc ag.empty (.cells (aM r))) (.cells [])).next=2:=rfl
  generalize (ag.alloc (ag.alloc ag.empty (.cells (aM r))) (.cells []))=H at g0 g1 gn ⊢
  have o0:Own encS 1 1 H (.slice (0+1) 0 0 1) []:=.row 1 [] (Nat.le_refl _) (by omega) g1
  obtain ⟨a1,h1,p1,p2,p3,p4,p5⟩:=o0.append gr mD (uz gr r.args H) (by omega) (bytes:=16) (by have:=hf.1;unfold cX;simp only [List.length_nil];omega)
  have g0':h1.get 0=some (.cells (aM r)):=by rw [p3 0 (by omega) (fun hb=>by simp [dV] at hb)];exact g0
  simp only [aV,Nat.reduceAdd,Nat.reduceEqDiff,reduceIte,au g0,aM]
  simp only [p1,aV,Nat.reduceAdd,Nat.reduceEqDiff,reduceIte]
  refine aB 0 r.body.l.length (Nat.zero_le _) (fun i e h'=>∃ a,h'.get 0=some (.cells (aM r))∧2≤h'.next∧Own encS 1 1 h' a (r.args.l++(r.body.l.take i).flatMap fun c=>c.args.l)∧e 1 = .ptr 0 0∧e 3=a∧e 4 = .int .i64 (i:Int))
   ⟨a1,g0',by omega,by simpa using p2,rfl,rfl,rfl⟩ ?_ ?_
  ·rintro i e h' _ hi ⟨a,q0,qn,o,e1,e3,e4⟩ K' hn hx hr hp
   have hv:r.body.l[i]?=some r.body.l[i]:=List.getElem?_eq_getElem hi
   generalize r.body.l[i]=c at hv
   have hc:=hf.2.2 c (List.mem_of_getElem? hv)
   obtain ⟨a2,h2,s1,s2,s3,s4,s5⟩:=o.append gr mD (uz gr c.args h') (by omega) (bytes:=16) (by have:=Em hf i;unfold cX;omega)
   have ld:∀ j,j<4→∀ h,ai none (.iptr (r.body.l.flatMap b6) (i*4+j)) h=(b6 c)[j]?:=fun j hj h=>eZ gL hv hj
   rw [F.bF.aN]
   simp only [e1,e3,e4,aV,Nat.reduceAdd,Nat.reduceEqDiff,reduceIte,au q0,aM,aY hi,aP r.body hi]
   simp only [aV,Nat.reduceAdd,Nat.reduceEqDiff,reduceIte,Nat.add_assoc,Nat.reduceAdd,ld 3 (by omega),b6,s1,aE hi hbb]
   refine hn _ _ ⟨a2,?_,by omega,?_,e1,rfl,rfl⟩
   ·rw [s3 0 (by omega) (fun hb=>by have:=o.ge hb;omega)];exact q0
   ·rw [List.take_add_one,hv,List.flatMap_append,← List.append_assoc];simpa using s2
  ·rintro e h' ⟨a,q0,qn,o,e1,e3,e4⟩ K' hx
   rw [List.take_of_length_le (Nat.le_refl _)] at o
   have hal:(qw r).length≤3000000:=by have:=Em hf r.body.l.length;rw [List.take_of_length_le (Nat.le_refl _)] at this;exact this
   have hab:(qw r).length≤cz:=by unfold cz;omega
   have o':Own encS 1 1 h' a (qw r):=o
   rw [F.bF.aN]
   simp only [e1,e4,aV,Nat.reduceAdd,Nat.reduceEqDiff,reduceIte,au q0,aM,aR]
   rw [hx,F.bF.aD]
   refine aB 0 (qw r).length (Nat.zero_le _) (fun i e h2=>∃ b,bT h' h2∧Own encS 1 h'.next h2 b (ey [] ((qw r).take i))∧e 3=a∧e 5=b∧e 6 = .int .i64 (i:Int))
    ⟨.nils,bT.refl _,by simpa [ey] using Own.nil,by simp only [bu,Nat.reduceEqDiff,reduceIte,e3],rfl,rfl⟩ ?_ ?_
   ·rintro i e h2 _ hi ⟨b,x2,ob,e3,e5,e6⟩ K2 hn hx2 hr hp
    have hv:(qw r)[i]?=some (qw r)[i]:=List.getElem?_eq_getElem hi
    generalize (qw r)[i]=s at hv
    have oa:=o'.ext x2
    obtain ⟨q,_,g1,g2⟩:=qi oa hv
    have hlb:(ey [] ((qw r).take i)).length≤3000000:=by
     have h1:=mF ((qw r).take i) []
     have h2:=List.length_take_le' i (qw r)
     simp only [List.length_nil] at h1;omega
    have hcomm:((ey [] ((qw r).take i)).any fun x=>x==s)=(ey [] ((qw r).take i)).any fun x=>s==x:=by
     congr 1;funext x;exact Bool.eq_iff_iff.2 ⟨fun h=>by rw [beq_iff_eq] at h ⊢;exact h.symm,fun h=>by rw [beq_iff_eq] at h ⊢;exact h.symm⟩
    have hstep:=wJ (o:=[]) hv
    unfold vJ at hstep
    rw [F.bF.cP]
    simp only [e3,e5,e6,oa.len,aV,Nat.reduceAdd,Nat.reduceEqDiff,reduceIte,aY hi,g1,g2]
    refine ak (cR ob (by unfold cz;omega) ?_)
    rw [hcomm]
    simp only [aV,Nat.reduceAdd,Nat.reduceEqDiff,reduceIte]
    cases hq:(ey [] ((qw r).take i)).any fun x=>s==x with
    |true=>
     rw [hq,if_pos rfl] at hstep
     simp only [Bool.not_true,aG,aE hi hab,bindO_some]
     exact hn _ _ ⟨b,x2,by rw [hstep];exact ob,e3,e5,rfl⟩
    |false=>
     rw [hq,if_neg (by simp)] at hstep
     obtain ⟨b2,h3,p1,p2,p3,p4,p5,p6⟩:=ob.push gr mD x2.next (bytes:=16) (by unfold cX;omega) s
     simp only [Bool.not_false,aI,e3,e5,e6,g1,g2,aV,Nat.reduceAdd,Nat.reduceEqDiff,reduceIte,MJ,p1,aE hi hab]
     exact hn _ _ ⟨b2,p5 h' x2 (Nat.le_refl _),by rw [hstep];exact p2,e3,rfl,rfl⟩
   ·rintro e h2 ⟨b,x2,ob,e3,e5,e6⟩ K2 hx2
    have oa:=o'.ext x2
    rw [F.bF.cP]
    simp only [e3,e6,oa.len,aV,Nat.reduceAdd,Nat.reduceEqDiff,reduceIte,aR]
    rw [hx2,F.bF.b8]
    rw [List.take_of_length_le (Nat.le_refl _),← td] at ob
    simp only [bu,Nat.reduceEqDiff,reduceIte,e5]
    obtain ⟨x,hx1,hx2⟩:=ob.Bb (fun v y hy=>by
     simp only [encS,List.mem_cons,List.not_mem_nil,or_false] at hy
     subst hy;exact .scalar _ rfl)
    exact cw.2 ⟨b,x,rfl,hx1,hx2⟩
 refine main.frozen (by have:=ef r;simpa [aM,AV.pureL,AV.pure] using this) fun o h' ho=>?_
 obtain ⟨v,x,rfl,hx,hfz⟩:=cw.1 ho
 exact ⟨v,_,rfl,hfz,hK x hx⟩
end
end Go.AM
namespace Go.AM
open Go Go.Proofs
noncomputable section
def GP(a b:Int):Int:=if b>a then b else a
theorem En(a b:Int):rT true (.int .i64 a) [.int .i64 b]=some (.int .i64 (GP a b)):=by simp [rT,E7,GP]
def gG(ps:List Nat):Int:=ps.foldl (fun a (p:Nat)=>GP a (p:Int)) (-1)
theorem Jt{o:List bI}{t s:bI}:s ∈ vJ o t↔s ∈ o∨s=t:=by
 unfold vJ
 split
 ·rename_i h
  obtain ⟨x,hx,hq⟩:=List.any_eq_true.1 h
  rw [beq_iff_eq] at hq
  exact ⟨.inl,fun h=>h.elim id fun e=>by rw [e,hq];exact hx⟩
 ·simp
theorem z8{s:bI}:∀ {l o:List bI},s ∈ ey o l↔s ∈ o∨s ∈ l
 |[],o=>by simp [ey]
 |t :: l,o=>by
  show s ∈ ey (vJ o t) l↔_
  rw [z8,Jt,List.mem_cons,or_assoc]
theorem Eo{r:aK}{s:bI}:s ∈ varsOf r↔s ∈ qw r:=by rw [td,z8];simp
theorem lX{r:aK}:∀ s ∈ r.args.l,s ∈ varsOf r:=fun s hs=>Eo.2 (List.mem_append_left _ hs)
theorem lY{r:aK}{c:eN}(hc:c ∈ r.body.l):∀ s ∈ c.args.l,s ∈ varsOf r:=fun s hs=>Eo.2 (List.mem_append_right _ (List.mem_flatMap.2 ⟨c,hc,hs⟩))
def iG(vars xs:List bI):List Int:=(placesOf vars xs).map fun (p:Nat)=>(p:Int)
theorem Ju(i n:Int)(nm:bI)(xs:Sl bI)(ys:Sl eN)(w:RW):gQ [.int .i64 0,.str [],.nils,.nils,.int .i64 0,.nils,.nils,.nils] [(0,1),(1,3),(4,1),(5,1)] [.int .i64 i,.agg [.str nm,an encS 1 xs,an b6 4 ys],.int .i64 n,w.av]=some (.agg [.int .i64 i,.str nm,an encS 1 xs,an b6 4 ys,.int .i64 n,w.av,.nils,.nils]):=by
 cases xs<;>cases ys<;>cases w<;>rfl
theorem Jv(s:St):eC Tryz.prog s Tryz.f109.results.toList=(match ai (some 8) (s.env 4) s.h,(some []:Option (List AV)) with|some v,some vs=>some (v :: vs)|_,_=>none):=by kernel_rfl
theorem GQ(a b c d e f g i:AV):ij (some 8) [a,b,c,d,e,f,g,i] 0=some (.agg [a,b,c,d,e,f,g,i]):=rfl
def bV(i:Int)(r:aK)(n:Int)(hd c l:AV):List AV:=[.int .i64 i,.str r.name,an encS 1 r.args,an b6 4 r.body,.int .i64 n,hd,c,l]
theorem Er(i:Int)(r:aK)(n:Int)(w:RW){c l:AV}(hc:bL [c]=true)(hl:bL [l]=true):bL (bV i r n w.av c l)=true:=by
 have hw:w.av.one=true:=by cases w<;>rfl
 unfold bV
 simp only [bL,Bool.and_true] at hc hl ⊢
 simp only [jc,hw,hc,hl,Bool.and_true];rfl
theorem Jw{P:Nat}{h:ag}{cs vs:List AV}(hP:h.get P=some (.cells cs))(hc:cs.length=8)(hv:vs.length=8)(h1:bL vs=true):bg 8 (.ptr P 0) (.agg vs) h=some (h.set P (.cells vs)):=by
 rw [cZ hP (by exact hv) (by exact h1) (by omega)]
 congr 1
 match cs,hc,vs,hv with
 |[a,b,c,d,e,f,g,i],_,[a',b',c',d',e',f',g',i'],_=>rfl
set_option maxHeartbeats 2000000 in
theorem ct{i0:Int}{r:aK}(hf:r.kX){h:ag}{K:Out→ag→Bool}
  (hK:∀ (hd:Sl Int) (cs:Sl (Sl Int)) (ls:Sl Int),hd.l=iG (varsOf r) r.args.l→cs.l.map Sl.l=r.body.l.map (fun c=>iG (varsOf r) c.args.l)→ls.l=r.body.l.map (fun c=>gG (placesOf (varsOf r) c.args.l)) →
   K (.ret (.agg (bV i0 r (varsOf r).length (an encI 1 hd) (an er 1 cs) (an encI 1 ls)))) h=true) :
  Sem Tryz.prog 109 [.int .i64 i0,.agg [.str r.name,an encS 1 r.args,an b6 4 r.body]] h K:=by
 have hbb:r.body.l.length≤cz:=by have:=hf.2.1;unfold cz;omega
 have hvl:(varsOf r).length≤3000000:=by have:=Ee hf r.body.l.length;rw [List.take_of_length_le (Nat.le_refl _)] at this;exact this
 have gen:∀ R:Out→ag→Bool,(∀ (h':ag) (hdW:RW) (cW lW:AV) (cs:Sl (Sl Int)) (ls:Sl Int),Fz true h' hdW.av (an encI 1 (hdW.map (·.2)))→hdW.l=iG (varsOf r) r.args.l→Fz true h' cW (an er 1 cs)→Fz true h' lW (an encI 1 ls) →
   cs.l.map Sl.l=r.body.l.map (fun c=>iG (varsOf r) c.args.l)→ls.l=r.body.l.map (fun c=>gG (placesOf (varsOf r) c.args.l))→R (.ret (.agg (bV i0 r (varsOf r).length hdW.av cW lW))) h'=true) →
   Sem Tryz.prog 109 [.int .i64 i0,.agg [.str r.name,an encS 1 r.args,an b6 4 r.body]] ag.empty R:=by
  intro R fin
  refine F.vj ?_
  have hb:cK (.agg [.str r.name,an encS 1 r.args,an b6 4 r.body])=some (aM r):=cY (iz r)
  simp only [hb,bindO_some,bG,ag.next_alloc]
  have g0:(ag.alloc (ag.alloc ag.empty (.cells (aM r))) (.cells [.int .i64 0,.str [],.nils,.nils,.int .i64 0,.nils,.nils,.nils])).get 0=some (.cells (aM r)):=by simp [ag.aW,bG]
  have g1:(ag.alloc (ag.alloc ag.empty (.cells (aM r))) (.cells [.int .i64 0,.str [],.nils,.nils,.int .i64 0,.nils,.nils,.nils])).get 1=some (.cells [.int .i64 0,.str [],.nils,.nils,.int .i64 0,.nils,.nils,.nils]):=by simp [ag.aW,bG]
  have gn:(ag.alloc (ag.alloc ag.empty (.cells (aM r))) (.cells [.int .i64 0,.str [],.nils,.nils,.int .i64 0,.nils,.nils,.nils])).next=2:=rfl
  generalize (ag.alloc (ag.alloc ag.empty (.cells (aM r))) (.cells [.int .i64 0,.str [],.nils,.nils,.int .i64 0,.nils,.nils,.nils]))=H at g0 g1 gn ⊢
  simp only [au g0,aM,oG,bindO_some]
  refine ak (cF hf fun x hx1=>?_)
  have hxb:x.l.length≤cz:=by rw [hx1];unfold cz;omega
  obtain ⟨H3,hs3,k2,ko,kn⟩:=kC (h:=H) (z:=.nils) (v:=an encS 1 x) (by cases x<;>rfl) (by simp only [bL,jc];rfl)
  have q0:H3.get 0=some (.cells (aM r)):=by rw [ko 0 (by omega)];exact g0
  have q1:H3.get 1=some (.cells [.int .i64 0,.str [],.nils,.nils,.int .i64 0,.nils,.nils,.nils]):=by rw [ko 1 (by omega)];exact g1
  rw [gn] at hs3 k2
  simp only [aV,Nat.reduceAdd,Nat.reduceEqDiff,reduceIte,gn,hs3]
  simp only [aV,Nat.reduceAdd,Nat.reduceEqDiff,reduceIte,au q0,au k2,aM,oG,show H3.next=3 by omega]
  have gx:=bT.alloc H3 (.cells [.int .i64 0,.str [],.nils,.nils,.int .i64 0,.nils,.nils,.nils])
  have g3:(H3.alloc (.cells [.int .i64 0,.str [],.nils,.nils,.int .i64 0,.nils,.nils,.nils])).get 3=some (.cells [.int .i64 0,.str [],.nils,.nils,.int .i64 0,.nils,.nils,.nils]):=by
   have:=aC H3 (.cells [.int .i64 0,.str [],.nils,.nils,.int .i64 0,.nils,.nils,.nils]);rw [show H3.next=3 by omega] at this;exact this
  have gn3:(H3.alloc (.cells [.int .i64 0,.str [],.nils,.nils,.int .i64 0,.nils,.nils,.nils])).next=4:=by rw [ag.next_alloc];omega
  generalize (H3.alloc (.cells [.int .i64 0,.str [],.nils,.nils,.int .i64 0,.nils,.nils,.nils]))=H4 at gx g3 gn3 ⊢
  have p0:H4.get 0=some (.cells (aM r)):=by rw [gx.get 0 (by omega)];exact q0
  have p1:H4.get 1=some (.cells [.int .i64 0,.str [],.nils,.nils,.int .i64 0,.nils,.nils,.nils]):=by rw [gx.get 1 (by omega)];exact q1
  have p2:H4.get 2=some (.cells [an encS 1 x]):=by rw [gx.get 2 (by omega)];exact k2
  refine ak (Ek p2 (by omega) (fun s hs=>by rw [hx1];exact lX s hs) (by have:=hf.1;omega) hxb fun a h5 oa x5=>?_)
  rw [gn3] at oa
  obtain ⟨hdW,rfl,hdl,hdk⟩:=Jq oa
  have r0:h5.get 0=some (.cells (aM r)):=by rw [x5.get 0 (by omega)];exact p0
  have r1:h5.get 1=some (.cells [.int .i64 0,.str [],.nils,.nils,.int .i64 0,.nils,.nils,.nils]):=by rw [x5.get 1 (by omega)];exact p1
  have r2:h5.get 2=some (.cells [an encS 1 x]):=by rw [x5.get 2 (by omega)];exact p2
  have r3:h5.get 3=some (.cells [.int .i64 0,.str [],.nils,.nils,.int .i64 0,.nils,.nils,.nils]):=by rw [x5.get 3 (by omega)];exact g3
  have rn:=x5.next
  have hst:=Jw (vs:=bV i0 r (varsOf r).length hdW.av .nils .nils) r3 rfl rfl (Er _ _ _ _ rfl rfl)
  have hag:=Ju i0 (varsOf r).length r.name r.args r.body hdW
  rw [← hx1] at hst hag
  simp only [aV,Nat.reduceAdd,Nat.reduceEqDiff,reduceIte,au r0,au r2,aM,oG,AV.beq_refl,Bool.and_self,Bool.and_true,if_true,hag]
  simp only [bV] at hst
  simp only [hst,aV,Nat.reduceAdd,Nat.reduceEqDiff,reduceIte]
  have t0:Dg 4 (h5.set 3 (.cells (bV i0 r x.l.length hdW.av .nils .nils))) .nils .nils [] [] [hdW]:=
   (Dg.low ⟨.nil,.nil,fun w hw p hp=>by
    rw [List.mem_singleton] at hw;subst hw
    obtain ⟨a1,a2,a3⟩:=hdk p hp
    exact ⟨a1,a2,a3,by simp [dV],by simp [dV]⟩,fun b hb=>by simp [dV] at hb⟩ (by omega) _)
  have s0:(h5.set 3 (.cells (bV i0 r x.l.length hdW.av .nils .nils))).get 0=some (.cells (aM r)):=by rw [ag.aO,if_neg (by omega)];exact r0
  have s1:(h5.set 3 (.cells (bV i0 r x.l.length hdW.av .nils .nils))).get 1=some (.cells [.int .i64 0,.str [],.nils,.nils,.int .i64 0,.nils,.nils,.nils]):=by rw [ag.aO,if_neg (by omega)];exact r1
  have s2:(h5.set 3 (.cells (bV i0 r x.l.length hdW.av .nils .nils))).get 2=some (.cells [an encS 1 x]):=by rw [ag.aO,if_neg (by omega)];exact r2
  have s3:(h5.set 3 (.cells (bV i0 r x.l.length hdW.av .nils .nils))).get 3=some (.cells (bV i0 r x.l.length hdW.av .nils .nils)):=by rw [ag.aO,if_pos rfl]
  have sn:(h5.set 3 (.cells (bV i0 r x.l.length hdW.av .nils .nils))).next=h5.next:=ag.next_set _ _ _
  simp only [bV] at t0 s0 s1 s2 s3 sn
  generalize (h5.set 3 (.cells [.int .i64 i0,.str r.name,an encS 1 r.args,an b6 4 r.body,.int .i64 (x.l.length:Int),hdW.av,.nils,.nils]))=H6 at t0 s0 s1 s2 s3 sn ⊢
  simp only [au s0,aM,aV,Nat.reduceAdd,Nat.reduceEqDiff,reduceIte]
  refine aB 0 r.body.l.length (Nat.zero_le _) (fun i e h'=>∃ cW lW ws ls,Dg 4 h' cW lW ws ls (hdW :: ws)∧ws.map RW.l=(r.body.l.take i).map (fun c=>iG (varsOf r) c.args.l)∧ls=(r.body.l.take i).map (fun c=>gG (placesOf (varsOf r) c.args.l)) ∧
   h'.get 1=some (.cells [.int .i64 0,.str [],.nils,.nils,.int .i64 0,.nils,.nils,.nils])∧h'.get 2=some (.cells [an encS 1 x])∧h'.get 3=some (.cells [.int .i64 i0,.str r.name,an encS 1 r.args,an b6 4 r.body,.int .i64 (x.l.length:Int),hdW.av,cW,lW])∧4≤h'.next ∧
   e 4 = .ptr 1 0∧e 6 = .func 156 [] [.ptr 2 0]∧e 7 = .ptr 3 0∧e 28=an b6 4 r.body∧e 29 = .int .i64 (r.body.l.length:Int)∧e 30 = .int .i64 (i:Int))
   ⟨.nils,.nils,[],[],t0,rfl,rfl,s1,s2,s3,by omega,rfl,rfl,rfl,rfl,rfl,rfl⟩ ?_ ?_
  ·rintro i e h' _ hi ⟨cW,lW,ws,ls,tw,hws,hls,u1,u2,u3,un,e4,e6,e7,e28,e29,e30⟩ K' hn hx hr hp
   have hv:r.body.l[i]?=some r.body.l[i]:=List.getElem?_eq_getElem hi
   generalize r.body.l[i]=c at hv
   have hcm:=List.mem_of_getElem? hv
   have hc15:=hf.2.2 c hcm
   obtain ⟨H2,hs2,c1,co,cn⟩:=cO (h:=h') (zs:=[.int .i64 0,.bool false,.str [],.nils]) (cs:=b6 c) (n:=4) rfl rfl (gN c)
   have x2:bT h' H2:=⟨by omega,fun b hb=>co b (by omega)⟩
   rw [F.ct.aN]
   simp only [e6,e28,e29,e30,aV,Nat.reduceAdd,Nat.reduceEqDiff,reduceIte,aY hi,aP r.body hi,dQ gL hv,hs2]
   simp only [aV,Nat.reduceAdd,Nat.reduceEqDiff,reduceIte,au c1,b6,callV_func,List.nil_append,List.cons_append]
   refine ak (Ek (xs:=c.args) (by rw [x2.get 2 (by omega)];exact u2) (by omega) (fun s hs=>by rw [hx1];exact lY hcm s hs) (by omega) hxb fun a h3 oa x3=>?_)
   rw [hx1] at oa
   obtain ⟨w,rfl,hwl,hwk⟩:=Jq oa
   have x23:=x2.trans x3
   have tw3:=tw.ext x23
   have v1:h3.get 1=some (.cells [.int .i64 0,.str [],.nils,.nils,.int .i64 0,.nils,.nils,.nils]):=by rw [x23.get 1 (by omega)];exact u1
   have v2:h3.get 2=some (.cells [an encS 1 x]):=by rw [x23.get 2 (by omega)];exact u2
   have v3:h3.get 3=some (.cells [.int .i64 i0,.str r.name,an encS 1 r.args,an b6 4 r.body,.int .i64 (x.l.length:Int),hdW.av,cW,lW]):=by rw [x23.get 3 (by omega)];exact u3
   have vn:=x23.next
   have twh:Dg 4 h3 cW lW ws ls (hdW :: ws++[w]):=tw3.hold (j:=H2.next) (fun p hp=>by
    obtain ⟨a1,a2,a3⟩:=hwk p hp
    exact ⟨a1,by omega,a2,a3⟩) (fun b hb=>by have:=tw.oc.lt hb;omega) (fun b hb=>by have:=tw.ol.lt hb;omega)
   have hpl:(placesOf (varsOf r) c.args.l).length≤cz:=by unfold placesOf cz;rw [List.length_map];omega
   have hlen:∀ h,bx .slice w.av h=some (.int .i64 ((placesOf (varsOf r) c.args.l).length:Int)):=fun h=>by rw [oa.len];simp
   simp only [aV,Nat.reduceAdd,Nat.reduceEqDiff,reduceIte,hlen]
   refine aB 0 (placesOf (varsOf r) c.args.l).length (Nat.zero_le _) (fun j e h2=>h2=h3∧e 4 = .ptr 1 0∧e 6 = .func 156 [] [.ptr 2 0]∧e 7 = .ptr 3 0∧e 28=an b6 4 r.body∧e 29 = .int .i64 (r.body.l.length:Int)∧e 30 = .int .i64 (i:Int) ∧
    e 10=w.av∧e 11 = .int .i64 (gG ((placesOf (varsOf r) c.args.l).take j))∧e 39=w.av∧e 40 = .int .i64 ((placesOf (varsOf r) c.args.l).length:Int)∧e 41 = .int .i64 (j:Int)) ⟨rfl,e4,e6,e7,e28,e29,e30,rfl,rfl,rfl,rfl,rfl⟩ ?_ ?_
   ·rintro j e h2 _ hj ⟨rfl,e4,e6,e7,e28,e29,e30,e10,e11,e39,e40,e41⟩ K2 hn2 hx2 hr2 hp2
    have hpj:(placesOf (varsOf r) c.args.l)[j]?=some (placesOf (varsOf r) c.args.l)[j]:=List.getElem?_eq_getElem hj
    generalize (placesOf (varsOf r) c.args.l)[j]=p at hpj
    have hpi:((placesOf (varsOf r) c.args.l).map fun (p:Nat)=>(p:Int))[j]?=some (p:Int):=by rw [List.getElem?_map,hpj];rfl
    obtain ⟨b,_,_,i1,_,i3⟩:=oa.get kT hpi
    have i3':ai none (.ptr b (j*1)) h2=some (.int .i64 (p:Int)):=i3 0 (by omega)
    rw [F.ct.cP]
    simp only [e11,e39,e40,e41,aV,Nat.reduceAdd,Nat.reduceEqDiff,reduceIte,aY hj,i1,i3',En,aE hj hpl]
    refine hn2 _ _ ⟨rfl,e4,e6,e7,e28,e29,e30,e10,?_,e39,e40,rfl⟩
    have:gG ((placesOf (varsOf r) c.args.l).take (j+1))=GP (gG ((placesOf (varsOf r) c.args.l).take j)) (p:Int):=by unfold gG;rw [List.take_add_one,hpj];simp
    rw [this];rfl
   ·rintro e h2 ⟨rfl,e4,e6,e7,e28,e29,e30,e10,e11,e39,e40,e41⟩ K2 hx2
    rw [List.take_of_length_le (Nat.le_refl _)] at e11
    have hwsl:ws.length≤1500:=by have h1:=congrArg List.length hws;simp only [List.length_map] at h1;have h2:=List.length_take_le' i r.body.l;have:=hf.2.1;omega
    have hlsl:ls.length≤1500:=by rw [hls,List.length_map];have h2:=List.length_take_le' i r.body.l;have:=hf.2.1;omega
    obtain ⟨c',l',m2,m3,t1,t2,t3,t4,t5⟩:=twh.push (by omega) (by omega) (by omega) w (gG (placesOf (varsOf r) c.args.l))
    have y3:m2.get 3=some (.cells [.int .i64 i0,.str r.name,an encS 1 r.args,an b6 4 r.body,.int .i64 (x.l.length:Int),hdW.av,cW,lW]):=by rw [(t4 3 (by omega)).1];exact v3
    have z3:m3.get 3=some (.cells [.int .i64 i0,.str r.name,an encS 1 r.args,an b6 4 r.body,.int .i64 (x.l.length:Int),hdW.av,cW,lW]):=by rw [(t4 3 (by omega)).2];exact v3
    obtain ⟨w1,w2⟩:=qq t3.oc
    obtain ⟨w3,w4⟩:=qq t3.ol
    have st1:bg 1 (.ptr 3 6) c' m3=some (m3.set 3 (.cells [.int .i64 i0,.str r.name,an encS 1 r.args,an b6 4 r.body,.int .i64 (x.l.length:Int),hdW.av,c',lW])):=by
     rw [cZ (n:=1) z3 (by rw [w1];rfl) (by rw [w1];exact w2) (by simp),w1];rfl
    have z4:(m3.set 3 (.cells [.int .i64 i0,.str r.name,an encS 1 r.args,an b6 4 r.body,.int .i64 (x.l.length:Int),hdW.av,c',lW])).get 3=some (.cells [.int .i64 i0,.str r.name,an encS 1 r.args,an b6 4 r.body,.int .i64 (x.l.length:Int),hdW.av,c',lW]):=by rw [ag.aO,if_pos rfl]
    have st2:bg 1 (.ptr 3 7) l' (m3.set 3 (.cells [.int .i64 i0,.str r.name,an encS 1 r.args,an b6 4 r.body,.int .i64 (x.l.length:Int),hdW.av,c',lW]))=some ((m3.set 3 (.cells [.int .i64 i0,.str r.name,an encS 1 r.args,an b6 4 r.body,.int .i64 (x.l.length:Int),hdW.av,c',lW])).set 3 (.cells [.int .i64 i0,.str r.name,an encS 1 r.args,an b6 4 r.body,.int .i64 (x.l.length:Int),hdW.av,c',l'])):=by
     rw [cZ (n:=1) z4 (by rw [w3];rfl) (by rw [w3];exact w4) (by simp),w3];rfl
    rw [F.ct.cP]
    simp only [e40,e41,aV,Nat.reduceAdd,Nat.reduceEqDiff,reduceIte,aR]
    rw [hx2,F.ct.b8]
    simp only [e7,e10,e11,e30,aV,Nat.reduceAdd,Nat.reduceEqDiff,reduceIte,au v3,Qs,Jk,ag.next_alloc]
    rw [au (r:=none) (o:=7) (h:=(ag.alloc h2 (.cells (uB w)))) (cs:=[.int .i64 i0,.str r.name,an encS 1 r.args,an b6 4 r.body,.int .i64 (x.l.length:Int),hdW.av,cW,lW]) (by rw [ag.aW,if_neg (by omega)];exact v3)]
    simp only [aV,Nat.reduceAdd,Nat.reduceEqDiff,reduceIte,Jk,ag.next_alloc,t1,au y3,AV.beq_refl,Bool.and_self,if_true,t2,st1,st2,aE hi hbb]
    refine hn _ _ ⟨c',l',ws++[w],ls++[gG (placesOf (varsOf r) c.args.l)],(t3.low (by omega) _).low (by omega) _,?_,?_,?_,?_,by rw [ag.aO,if_pos rfl],by rw [ag.next_set,ag.next_set];omega,e4,e6,e7,e28,e29,rfl⟩
    ·rw [List.map_append,hws,List.take_add_one,hv,List.map_append]
     simp only [List.map_cons,List.map_nil,Option.toList_some]
     rw [hwl];rfl
    ·rw [hls,List.take_add_one,hv,List.map_append];rfl
    ·rw [ag.aO,if_neg (by omega),ag.aO,if_neg (by omega),(t4 1 (by omega)).2];exact v1
    ·rw [ag.aO,if_neg (by omega),ag.aO,if_neg (by omega),(t4 2 (by omega)).2];exact v2
  ·rintro e h' ⟨cW,lW,ws,ls,tw,hws,hls,u1,u2,u3,un,e4,e6,e7,e28,e29,e30⟩ K' hx
   rw [List.take_of_length_le (Nat.le_refl _)] at hws hls
   obtain ⟨_,w2⟩:=qq tw.oc
   obtain ⟨_,w4⟩:=qq tw.ol
   have hst2:=Jw (vs:=bV i0 r x.l.length hdW.av cW lW) u1 rfl rfl (Er _ _ _ _ w2 w4)
   simp only [bV] at hst2
   rw [F.ct.aN]
   simp only [e29,e30,aV,Nat.reduceAdd,Nat.reduceEqDiff,reduceIte,aR]
   rw [hx,F.ct.aD]
   simp only [e4,e7,aV,Nat.reduceAdd,Nat.reduceEqDiff,reduceIte,au u3,GQ,hst2,Jv]
   have tf:=tw.low (by omega:1<4) (.cells [.int .i64 i0,.str r.name,an encS 1 r.args,an b6 4 r.body,.int .i64 (x.l.length:Int),hdW.av,cW,lW])
   have gf:(h'.set 1 (.cells [.int .i64 i0,.str r.name,an encS 1 r.args,an b6 4 r.body,.int .i64 (x.l.length:Int),hdW.av,cW,lW])).get 1=some (.cells [.int .i64 i0,.str r.name,an encS 1 r.args,an b6 4 r.body,.int .i64 (x.l.length:Int),hdW.av,cW,lW]):=by rw [ag.aO,if_pos rfl]
   simp only [bu,Nat.reduceEqDiff,reduceIte,e4,au gf,GQ,bindO_some,oneOf]
   obtain ⟨cs,cs1,cs2⟩:=tf.tD (fun w hw=>List.mem_cons_of_mem _ hw)
   obtain ⟨lx,lx1,lx2⟩:=tf.ol.Bb (fun v y hy=>by
    simp only [encI,List.mem_cons,List.not_mem_nil,or_false] at hy
    subst hy;exact .scalar _ rfl)
   have hfz:Fz true (h'.set 1 (.cells [.int .i64 i0,.str r.name,an encS 1 r.args,an b6 4 r.body,.int .i64 (x.l.length:Int),hdW.av,cW,lW])) hdW.av (an encI 1 (hdW.map (·.2))):=by
    cases hdW with
    |none=>exact .cU rfl
    |some p=>exact lN (tf.ok _ List.mem_cons_self p rfl).2.2.1
   have:=fin _ hdW cW lW cs lx hfz (by rw [← hx1];exact hdl) cs2 lx2 (by rw [cs1,hws]) (by rw [lx1,hls])
   rw [← hx1] at this
   exact this
 have main:=gen (fun o h'=>yes (∃ (hdW:RW) (cW lW:AV) (cs:Sl (Sl Int)) (ls:Sl Int),o = .ret (.agg (bV i0 r (varsOf r).length hdW.av cW lW))∧Fz true h' hdW.av (an encI 1 (hdW.map (·.2)))∧hdW.l=iG (varsOf r) r.args.l∧Fz true h' cW (an er 1 cs)∧Fz true h' lW (an encI 1 ls) ∧
   cs.l.map Sl.l=r.body.l.map (fun c=>iG (varsOf r) c.args.l)∧ls.l=r.body.l.map (fun c=>gG (placesOf (varsOf r) c.args.l)))) (fun h' hdW cW lW cs ls f1 f2 f3 f4 f5 f6=>cw.2 ⟨hdW,cW,lW,cs,ls,rfl,f1,f2,f3,f4,f5,f6⟩)
 refine main.frozen (by have:=ef r;simpa [aM,AV.pureL,AV.pure] using this) fun o h' ho=>?_
 obtain ⟨hdW,cW,lW,cs,ls,rfl,f1,f2,f3,f4,f5,f6⟩:=cw.1 ho
 have fl:iQ true h' (bV i0 r (varsOf r).length hdW.av cW lW) (bV i0 r (varsOf r).length (an encI 1 (hdW.map (·.2))) (an er 1 cs) (an encI 1 ls)):=
  .cons (.scalar _ rfl) (.cons (.scalar _ rfl) (.cons (.cU (bE gj _)) (.cons (.cU (bE zT _)) (.cons (.scalar _ rfl) (.cons f1 (.cons f3 (.cons f4 .nil)))))))
 exact ⟨_,_,rfl,.agg _ _ fl.len fl.rel,hK (hdW.map (·.2)) cs ls (by rw [← f2];cases hdW<;>rfl) f5 f6⟩
end
end Go.AM
namespace Go.AM
open Go Go.Proofs
noncomputable section
theorem iW(vs:List Int)(ps:List Nat):(bw vs ps).length=ps.length:=by simp [bw]
theorem kG{n:Nat}{vs:List Int}(hb:gI n vs=true){ps:List Nat}(hps:∀ p ∈ ps,p<vs.length):gI n (bw vs ps)=true:=by
 unfold gI at hb ⊢
 rw [List.all_eq_true] at hb ⊢
 intro v hv
 unfold bw at hv
 obtain ⟨p,hp,rfl⟩:=List.mem_map.1 hv
 have hpl:=hps p hp
 refine hb _ ?_
 rw [List.getD_eq_getElem?_getD,List.getElem?_eq_getElem hpl]
 exact List.getElem_mem hpl
theorem jM{vars xs:List bI}(h:∀ s ∈ xs,s ∈ vars):∀ p ∈ placesOf vars xs,p<vars.length:=fun p hp=>by
 unfold placesOf at hp
 obtain ⟨s,hs,rfl⟩:=List.mem_map.1 hp
 exact List.idxOf_lt_length_of_mem (h s hs)
structure BT (n:Nat) (D:bI→Option (Nat×List Bool)) (r:aK):Prop where
 rel:∀ c ∈ r.body.l,c.kind=0→n ^ c.args.l.length≤4096∧∃ p,D c.name=some p∧p.2.length=n ^ c.args.l.length
 two:∀ c ∈ r.body.l,c.kind=1∨c.kind=2→c.args.l.length=2
 kinds:∀ c ∈ r.body.l,c.kind=0∨c.kind=1∨c.kind=2
 arity:∀ c ∈ r.body.l,c.args.l.length≤12
def bz(r:aK)(c:eN):List Nat:=placesOf (varsOf r) c.args.l
def xQ(n:Nat)(look:bI→Nat→Bool)(r:aK)(vs:List Int)(upto:Int):Bool:=r.body.l.all fun c=>!decide (gG (bz r c)=upto)||dD n look c (bw vs (bz r c))
set_option maxHeartbeats 1000000 in
theorem Es{S B n lo N0 N1 N4 V:Nat}{D:bI→Option (Nat×List Bool)}{h:ag}{r:aK}{i0 nv:Int}{hd:Sl Int}{cs:Sl (Sl Int)}{ls:Sl Int}{vs:List Int}(hf:r.kX)(hcs:cs.l.map Sl.l=r.body.l.map (fun c=>iG (varsOf r) c.args.l))(hls:ls.l=r.body.l.map (fun c=>gG (placesOf (varsOf r) c.args.l)))
  (hS:h.get S=some (.cells [.int .i64 (n:Int),.map B])) (hD:ei D h B lo) (hSn:S<h.next) (h0:h.get N0=some (.cells [.ptr S 0])) (h0n:N0<h.next) (h1:h.get N1=some (.cells (bV i0 r nv (an encI 1 hd) (an er 1 cs) (an encI 1 ls)))) (h1n:N1<h.next)
  (h4:h.get N4=some (.cells [.slice V 0 vs.length 1])) (h4n:N4<h.next) (hV:h.get V=some (.cells (vs.map iv))) (hVn:V<h.next) (hvl:vs.length=(varsOf r).length) (hvs:gI n vs=true) (n1:1≤n) (hk:BT n D r) {upto:Int} {K:Out→ag→Bool}
  (hK:∀ h',bT h h'→K (.ret (.bool (xQ n (eG D) r vs upto))) h'=true):Sem Tryz.prog 166 [.int .i64 upto,.ptr N1 0,.ptr N0 0,.ptr N4 0] h K:=by
 have hbb:r.body.l.length≤cz:=by have:=hf.2.1;unfold cz;omega
 have hcl:cs.l.length=r.body.l.length:=by have:=congrArg List.length hcs;simpa using this
 have hll:ls.l.length=r.body.l.length:=by rw [hls];simp
 refine F.oC ?_
 simp only [bV] at h1
 simp only [aV,Nat.reduceAdd,Nat.reduceEqDiff,reduceIte,au h1]
 refine aB 0 r.body.l.length (Nat.zero_le _) (fun i e h'=>bT h h'∧e 0 = .int .i64 upto∧e 1 = .ptr N1 0∧e 2 = .ptr N0 0∧e 3 = .ptr N4 0∧e 10=an b6 4 r.body∧e 11 = .int .i64 (r.body.l.length:Int)∧e 12 = .int .i64 (i:Int) ∧
  (r.body.l.take i).all (fun c=>!decide (gG (bz r c)=upto)||dD n (eG D) c (bw vs (bz r c)))=true) ⟨bT.refl _,rfl,rfl,rfl,rfl,rfl,rfl,rfl,rfl⟩ ?_ ?_
 ·rintro i e h' _ hi ⟨x1,e0,e1,e2,e3,e10,e11,e12,ht⟩ K' hn hx hr hp
  have hv:r.body.l[i]?=some r.body.l[i]:=List.getElem?_eq_getElem hi
  generalize r.body.l[i]=c at hv
  have hcm:=List.mem_of_getElem? hv
  obtain ⟨H2,hs2,c1,co,cn⟩:=cO (h:=h') (zs:=[.int .i64 0,.bool false,.str [],.nils]) (cs:=b6 c) (n:=4) rfl rfl (gN c)
  have x2:bT h H2:=x1.trans ⟨by omega,fun b hb=>co b (by omega)⟩
  have q1:H2.get N1=some (.cells [.int .i64 i0,.str r.name,an encS 1 r.args,an b6 4 r.body,.int .i64 nv,an encI 1 hd,an er 1 cs,an encI 1 ls]):=by rw [x2.get _ h1n];exact h1
  have q0:H2.get N0=some (.cells [.ptr S 0]):=by rw [x2.get _ h0n];exact h0
  have q4:H2.get N4=some (.cells [.slice V 0 vs.length 1]):=by rw [x2.get _ h4n];exact h4
  have qV:H2.get V=some (.cells (vs.map iv)):=by rw [x2.get _ hVn];exact hV
  have hlast:ls.l[i]?=some (gG (bz r c)):=by rw [hls,List.getElem?_map,hv];rfl
  have n1x:=x1.next
  rw [F.cx.aN]
  simp only [e0,e1,e2,e3,e10,e11,e12,aV,Nat.reduceAdd,Nat.reduceEqDiff,reduceIte,aY hi,aP r.body hi,dQ gL hv,hs2]
  simp only [aV,Nat.reduceAdd,Nat.reduceEqDiff,reduceIte,au q1,aP ls (show i<ls.l.length by omega),fF hlast,cQ]
  by_cases hu:gG (bz r c)=upto
  ·have hci:i<cs.l.length:=by omega
   have hrow:cs.l[i]?=some cs.l[i]:=List.getElem?_eq_getElem hci
   have hxl:(cs.l[i]).l=(bz r c).map fun (p:Nat)=>(p:Int):=by
    have h3:(cs.l.map Sl.l)[i]?=some (iG (varsOf r) c.args.l):=by rw [hcs,List.getElem?_map,hv];rfl
    rw [List.getElem?_map,hrow] at h3
    exact Option.some.inj h3
   generalize cs.l[i]=xi at hrow hxl
   have hpl:∀ p ∈ bz r c,p<vs.length:=by rw [hvl];exact jM (lY hcm)
   have hplen:(bz r c).length=c.args.l.length:=by unfold bz placesOf;simp
   simp only [decide_eq_true hu,aI,aV,Nat.reduceAdd,Nat.reduceEqDiff,reduceIte,au q0,au q4,au q1,au c1,b6,CU,aP cs hci,fJ hrow]
   refine ak (GO (ps:=bz r c) qV (by have:=x2.next;omega) rfl hxl hpl (by rw [hplen];have:=hk.arity c hcm;omega) fun h3 t1 x3 t2=>?_)
   have c3:h3.get h'.next=some (.cells (b6 c)):=by rw [x3.get _ (by omega)];exact c1
   have q03:h3.get N0=some (.cells [.ptr S 0]):=by rw [x3.get _ (by have:=x2.next;omega)];exact q0
   have x23:=x2.trans x3
   simp only [aV,Nat.reduceAdd,Nat.reduceEqDiff,reduceIte,au c3,au q03,b6,CU,AV.beq_refl,Bool.and_self,Bool.and_true,if_true]
   have hvlen:=iW vs (bz r c)
   have hS3:h3.get S=some (.cells [.int .i64 (n:Int),.map B]):=by rw [x23.get _ hSn];exact hS
   rw [← hvlen]
   refine ak (Ej (D:=D) (lo:=lo) hS3 (hD.ext x23) n1 t1 t2 (by have:=x23.next;omega) (by rw [hvlen,hplen];exact hk.arity c hcm) (kG hvs hpl) (fun k0=>by rw [hvlen,hplen];exact hk.rel c hcm k0) (fun k12=>by rw [hvlen,hplen];exact hk.two c hcm k12) (hk.kinds c hcm) fun h5 x5=>?_)
   simp only [aV,Nat.reduceAdd,Nat.reduceEqDiff,reduceIte]
   cases hcv:dD n (eG D) c (bw vs (bz r c)) with
   |false=>
    simp only [Bool.not_false,aI]
    rw [hr,F.cx.bq]
    have:xQ n (eG D) r vs upto=false:=all_false hv (by rw [decide_eq_true hu,hcv];rfl)
    rw [this] at hK
    exact hK h5 (x23.trans x5)
   |true=>
    simp only [Bool.not_true,aG,e12,aE hi hbb,bindO_some]
    exact hn _ _ ⟨x23.trans x5,e0,e1,e2,e3,e10,e11,rfl,gJ hv ht (by rw [hcv,Bool.or_true])⟩
  ·simp only [decide_eq_false hu,aG,e12,aE hi hbb,bindO_some]
   exact hn _ _ ⟨x2,e0,e1,e2,e3,e10,e11,rfl,gJ hv ht (by rw [decide_eq_false hu];rfl)⟩
 ·rintro e h' ⟨x1,e0,e1,e2,e3,e10,e11,e12,ht⟩ K' hx
  rw [List.take_of_length_le (Nat.le_refl _)] at ht
  rw [F.cx.aN]
  simp only [e11,e12,aV,Nat.reduceAdd,Nat.reduceEqDiff,reduceIte,aR]
  rw [hx,F.cx.aD]
  have:xQ n (eG D) r vs upto=true:=ht
  rw [this] at hK
  exact hK h' x1
end
end Go.AM
namespace Go.AM
open Go Go.Proofs
noncomputable section
structure Nd (σ:Type) (Abs:σ→ag→Prop) (Dof:σ→bI→Option (Nat×List Bool)) (doF:List Int→σ→σ) (S B n lo base k:Nat) (r:aK) (g:FuncId) (ga gb:List AV):Prop where
 n1:1≤n
 n64:n≤64
 sb:S<base
 st:∀ s h,Abs s h→h.get S=some (.cells [.int .i64 (n:Int),.map B])∧ei (Dof s) h B lo∧BT n (Dof s) r
 keep:∀ s h h',Abs s h→base≤h.next→(∀ b,b<base→h'.get b=h.get b)→h.next≤h'.next→Abs s h'
 run:∀ s h V vs K,Abs s h→base≤V→V<h.next→h.get V=some (.cells (vs.map iv))→vs.length=k→gI n vs=true →
  (∀ h',Abs (doF vs s) h'→(∀ b,base≤b→b<h.next→h'.get b=h.get b)→h.next≤h'.next→K (.ret (.bool true)) h'=true)→Sem Tryz.prog g (ga++([.slice V 0 vs.length 1]++gb)) h K
def jx{σ:Type}(Dof:σ→bI→Option (Nat×List Bool))(n:Nat)(r:aK)(v:Nat)(go:List Int→σ→List Int×σ)(acc:List Int×σ)(x:Nat):List Int×σ:=
 if xQ n (eG (Dof acc.2)) r (acc.1.set v (x:Int)) (v:Int)=true then go (acc.1.set v (x:Int)) acc.2 else (acc.1.set v (x:Int),acc.2)
def fZ{σ:Type}(Dof:σ→bI→Option (Nat×List Bool))(doF:List Int→σ→σ)(n:Nat)(r:aK):Nat→Nat→List Int→σ→List Int×σ
 |0,_,vs,s=>(vs,doF vs s)
 |m+1,v,vs,s=>(List.range n).foldl (jx Dof n r v (fZ Dof doF n r m (v+1))) (vs,s)
theorem oJ{n:Nat}{vs:List Int}(h:gI n vs=true)(v:Nat){x:Nat}(hx:x<n):gI n (vs.set v (x:Int))=true:=by
 unfold gI at h ⊢
 rw [List.all_eq_true] at h ⊢
 intro y hy
 rcases List.mem_or_eq_of_mem_set hy with hy|rfl
 ·exact h y hy
 ·simp;omega
theorem iA{α β:Type}{P:α→Prop}{f:α→β→α}:∀ {l:List β} {a:α},P a→(∀ a b,b ∈ l→P a→P (f a b))→P (l.foldl f a)
 |[],a,h,_=>h
 |b :: l,a,h,hf=>iA (l:=l) (hf a b List.mem_cons_self h) fun a c hc=>hf a c (List.mem_cons_of_mem _ hc)
theorem Et{σ:Type}{Dof:σ→bI→Option (Nat×List Bool)}{doF:List Int→σ→σ}{n:Nat}{r:aK}{k:Nat}:∀ (m v:Nat) (vs:List Int) (s:σ),vs.length=k→gI n vs=true→(fZ Dof doF n r m v vs s).1.length=k∧gI n (fZ Dof doF n r m v vs s).1=true
 |0,v,vs,s,h1,h2=>⟨h1,h2⟩
 |m+1,v,vs,s,h1,h2=>by
  refine iA (P:=fun (a:List Int×σ)=>a.1.length=k∧gI n a.1=true) ⟨h1,h2⟩ fun a x hx ha=>?_
  have hxn:=List.mem_range.1 hx
  have h3:(a.1.set v (x:Int)).length=k:=by rw [List.length_set];exact ha.1
  have h4:=oJ ha.2 v hxn
  unfold jx
  split
  ·exact Et m (v+1) _ _ h3 h4
  ·exact ⟨h3,h4⟩
structure Cells (S n k:Nat) (N0 N1 N2 N4 N5 N6 V base:Nat) (i0:Int) (r:aK) (hd:Sl Int) (cs:Sl (Sl Int)) (ls:Sl Int) (g:FuncId) (ga gb:List AV) (h:ag):Prop where
 h0:h.get N0=some (.cells [.ptr S 0])
 h1:h.get N1=some (.cells (bV i0 r k (an encI 1 hd) (an er 1 cs) (an encI 1 ls)))
 h2:h.get N2=some (.cells [.func g ga gb])
 h4:h.get N4=some (.cells [.slice V 0 k 1])
 h5:h.get N5=some (.cells [.func 166 [] [.ptr N1 0,.ptr N0 0,.ptr N4 0]])
 h6:h.get N6=some (.cells [.func 167 [] [.ptr N1 0,.ptr N2 0,.ptr N4 0,.ptr N0 0,.ptr N5 0,.ptr N6 0]])
 lo:base≤N0∧base≤N1∧base≤N2∧base≤N4∧base≤N5∧base≤N6∧base≤V
 hi:N0<h.next∧N1<h.next∧N2<h.next∧N4<h.next∧N5<h.next∧N6<h.next∧V<h.next
 ne:N0≠V∧N1≠V∧N2≠V∧N4≠V∧N5≠V∧N6≠V
theorem Cells.keep{S n k N0 N1 N2 N4 N5 N6 V base:Nat}{i0:Int}{r:aK}{hd:Sl Int}{cs:Sl (Sl Int)}{ls:Sl Int}{g:FuncId}{ga gb:List AV}{h h':ag}(c:Cells S n k N0 N1 N2 N4 N5 N6 V base i0 r hd cs ls g ga gb h)(hb:∀ b,base≤b→b<h.next→b≠V→h'.get b=h.get b)(hn:h.next≤h'.next) :
  Cells S n k N0 N1 N2 N4 N5 N6 V base i0 r hd cs ls g ga gb h':=by
 obtain ⟨h0,h1,h2,h4,h5,h6,⟨l0,l1,l2,l4,l5,l6,lv⟩,⟨i0',i1,i2,i4,i5,i6,iv'⟩,⟨n0,n1,n2,n4,n5,n6⟩⟩:=c
 exact ⟨by rw [hb _ l0 i0' n0];exact h0,by rw [hb _ l1 i1 n1];exact h1,by rw [hb _ l2 i2 n2];exact h2,by rw [hb _ l4 i4 n4];exact h4,by rw [hb _ l5 i5 n5];exact h5,by rw [hb _ l6 i6 n6];exact h6,
  ⟨l0,l1,l2,l4,l5,l6,lv⟩,⟨by omega,by omega,by omega,by omega,by omega,by omega,by omega⟩,⟨n0,n1,n2,n4,n5,n6⟩⟩
set_option maxHeartbeats 1000000 in
theorem HK{σ:Type}{Abs:σ→ag→Prop}{Dof:σ→bI→Option (Nat×List Bool)}{doF:List Int→σ→σ}{S B n lo base k:Nat}{r:aK}{g:FuncId}{ga gb:List AV}(d:Nd σ Abs Dof doF S B n lo base k r g ga gb)
  {N0 N1 N2 N4 N5 N6 V:Nat} {i0:Int} {hd:Sl Int} {cs:Sl (Sl Int)} {ls:Sl Int} (hf:r.kX) (hk:k=(varsOf r).length) (hk12:k≤12) (hcs:cs.l.map Sl.l=r.body.l.map (fun c=>iG (varsOf r) c.args.l)) (hls:ls.l=r.body.l.map (fun c=>gG (placesOf (varsOf r) c.args.l))) :
  ∀ (m v:Nat),v+m=k→∀ (vs:List Int) (s:σ) (h:ag) (K:Out→ag→Bool),Abs s h→base≤h.next→Cells S n k N0 N1 N2 N4 N5 N6 V base i0 r hd cs ls g ga gb h→h.get V=some (.cells (vs.map iv))→vs.length=k→gI n vs=true →
   (∀ h',Abs (fZ Dof doF n r m v vs s).2 h'→h'.get V=some (.cells ((fZ Dof doF n r m v vs s).1.map iv))→(∀ b,base≤b→b<h.next→b≠V→h'.get b=h.get b)→h.next≤h'.next→K (.ret (.bool true)) h'=true) →
   Sem Tryz.prog 167 [.int .i64 (v:Int),.ptr N1 0,.ptr N2 0,.ptr N4 0,.ptr N0 0,.ptr N5 0,.ptr N6 0] h K:=by
 intro m
 induction m with
 |zero=>
  intro v hv vs s h K ha hbn hc hV hvl hvs hK
  have h1:=hc.h1
  simp only [bV] at h1
  refine F.jR ?_
  simp only [aV,Nat.reduceAdd,Nat.reduceEqDiff,reduceIte,au h1,cQ,decide_eq_true (by omega:(v:Int)=(k:Int)),aI,au hc.h2,au hc.h4,callV_func]
  rw [← hvl]
  refine ak (d.run s h V vs _ ha hc.lo.2.2.2.2.2.2 hc.hi.2.2.2.2.2.2 hV hvl hvs fun h' a1 a2 a3=>?_)
  simp only [aV,Nat.reduceAdd,Nat.reduceEqDiff,reduceIte]
  exact hK h' a1 (by rw [a2 V hc.lo.2.2.2.2.2.2 hc.hi.2.2.2.2.2.2];exact hV) (fun b b1 b2 _=>a2 b b1 b2) a3
 |succ m ih=>
  intro v hv vs s h K ha hbn hc hV hvl hvs hK
  have h1:=hc.h1
  simp only [bV] at h1
  have hS:=(d.st s h ha).1
  have n64:=d.n64
  refine F.jR ?_
  simp only [aV,Nat.reduceAdd,Nat.reduceEqDiff,reduceIte,au h1,cQ,decide_eq_false (by omega:¬ (v:Int)=(k:Int)),aG,au hc.h0,cm,au hS]
  refine aB 0 n (Nat.zero_le _) (fun x e h'=>∃ acc:List Int×σ,acc=(List.range x).foldl (jx Dof n r v (fZ Dof doF n r m (v+1))) (vs,s)∧Abs acc.2 h'∧h'.get V=some (.cells (acc.1.map iv))∧acc.1.length=k∧gI n acc.1=true ∧
   (∀ b,base≤b→b<h.next→b≠V→h'.get b=h.get b)∧h.next≤h'.next∧e 0 = .int .i64 (v:Int)∧e 1 = .ptr N1 0∧e 2 = .ptr N2 0∧e 3 = .ptr N4 0∧e 4 = .ptr N0 0∧e 5 = .ptr N5 0∧e 6 = .ptr N6 0∧e 20 = .int .i64 (n:Int)∧e 21 = .int .i64 (x:Int))
   ⟨(vs,s),rfl,ha,hV,hvl,hvs,fun _ _ _ _=>rfl,Nat.le_refl _,rfl,rfl,rfl,rfl,rfl,rfl,rfl,rfl,rfl⟩ ?_ ?_
  ·rintro x e h' _ hx ⟨acc,hacc,qa,qV,ql,qin,qf,qn,e0,e1,e2,e3,e4,e5,e6,e20,e21⟩ K' hn hx' hr hp
   have hstep:(List.range (x+1)).foldl (jx Dof n r v (fZ Dof doF n r m (v+1))) (vs,s)=jx Dof n r v (fZ Dof doF n r m (v+1)) acc x:=by
    rw [List.range_succ,List.foldl_append,← hacc];rfl
   unfold jx at hstep
   have hc':=hc.keep qf qn
   have hst:=mC (v:=(x:Int)) qV (i:=v) (by omega)
   have hvk:v<k:=by omega
   rw [F.cM.aN]
   simp only [e0,e3,e5,e20,e21,aV,Nat.reduceAdd,Nat.reduceEqDiff,reduceIte,aY hx,au hc'.h4,jT hvk,hst]
   have qn0:(h'.set V (.cells ((acc.1.set v (x:Int)).map iv))).next=h'.next:=ag.next_set _ _ _
   have qg:∀ b,b≠V→(h'.set V (.cells ((acc.1.set v (x:Int)).map iv))).get b=h'.get b:=fun b hb=>by rw [ag.aO,if_neg hb]
   have qV2:(h'.set V (.cells ((acc.1.set v (x:Int)).map iv))).get V=some (.cells ((acc.1.set v (x:Int)).map iv)):=by rw [ag.aO,if_pos rfl]
   generalize (h'.set V (.cells ((acc.1.set v (x:Int)).map iv)))=H at qn0 qg qV2 ⊢
   have cH:=hc'.keep (h':=H) (fun b _ _ hb=>qg b hb) (by omega)
   have lV:=hc.lo.2.2.2.2.2.2
   have aH:=d.keep _ _ H qa (by omega) (fun b hb=>qg b (by omega)) (by omega)
   obtain ⟨sS,sD,sA⟩:=d.st _ _ aH
   have hl2:(acc.1.set v (x:Int)).length=k:=by rw [List.length_set];exact ql
   have hin2:=oJ qin v hx
   generalize (acc.1.set v (x:Int))=vs2 at hstep qV2 hl2 hin2
   have c4:=cH.h4
   rw [← hl2] at c4
   simp only [au cH.h5,aV,Nat.reduceAdd,Nat.reduceEqDiff,reduceIte,callV_func,List.nil_append,List.cons_append]
   refine ak (Es (n:=n) (B:=B) (lo:=lo) (S:=S) hf hcs hls sS sD (by have:=d.sb;omega) cH.h0 cH.hi.1 cH.h1 cH.hi.2.1 c4 cH.hi.2.2.2.1 qV2 cH.hi.2.2.2.2.2.2 (by omega) hin2 d.n1 sA fun h3 x3=>?_)
   have c3:=cH.keep (fun b _ hb _=>x3.get b hb) x3.next
   have a3:=d.keep _ _ h3 aH (by omega) (fun b hb=>x3.get b (by omega)) x3.next
   have v3:h3.get V=some (.cells (vs2.map iv)):=by rw [x3.get V cH.hi.2.2.2.2.2.2];exact qV2
   have n3:=x3.next
   have f3:∀ b,base≤b→b<h.next→b≠V→h3.get b=h.get b:=fun b b1 b2 b3=>by rw [x3.get b (by omega),qg b b3,qf b b1 b2 b3]
   simp only [aV,Nat.reduceAdd,Nat.reduceEqDiff,reduceIte]
   cases hask:xQ n (eG (Dof acc.2)) r vs2 (v:Int) with
   |false=>
    rw [hask,if_neg (by simp)] at hstep
    simp only [aG,e21,aE hx (show n≤cz by unfold cz;omega),bindO_some]
    exact hn _ _ ⟨_,hstep.symm,a3,v3,hl2,hin2,f3,by omega,e0,e1,e2,e3,e4,e5,e6,e20,rfl⟩
   |true=>
    rw [hask,if_pos rfl] at hstep
    have hv1:=aE (i:=v) (n:=13) (by omega) (by unfold cz;omega)
    simp only [aI,e0,e6,au c3.h6,aV,Nat.reduceAdd,Nat.reduceEqDiff,reduceIte,hv1,callV_func,List.nil_append,List.cons_append]
    refine ak (ih (v+1) (by omega) vs2 acc.2 h3 _ a3 (by omega) c3 v3 hl2 hin2 fun h4 a4 v4 f4 n4=>?_)
    obtain ⟨w1,w2⟩:=Et (Dof:=Dof) (doF:=doF) (r:=r) (k:=k) m (v+1) vs2 acc.2 hl2 hin2
    simp only [aV,Nat.reduceAdd,Nat.reduceEqDiff,reduceIte,Bool.not_true,aG,e21,aE hx (show n≤cz by unfold cz;omega)]
    exact hn _ _ ⟨_,hstep.symm,a4,v4,w1,w2,fun b b1 b2 b3=>by rw [f4 b b1 (by omega) b3,f3 b b1 b2 b3],by omega,e0,e1,e2,e3,e4,e5,e6,e20,rfl⟩
  ·rintro e h' ⟨acc,hacc,qa,qV,ql,qin,qf,qn,e0,e1,e2,e3,e4,e5,e6,e20,e21⟩ K' hx'
   rw [F.cM.aN]
   simp only [e20,e21,aV,Nat.reduceAdd,Nat.reduceEqDiff,reduceIte,aR]
   rw [hx',F.cM.aD]
   have:fZ Dof doF n r (m+1) v vs s=acc:=hacc.symm
   rw [this] at hK
   exact hK h' qa qV qf qn
end
end Go.AM
namespace Go.AM
open Go Go.Proofs
noncomputable section
def uC{σ:Type}(Dof:σ→bI→Option (Nat×List Bool))(doF:List Int→σ→σ)(n:Nat)(r:aK)(k:Nat)(s:σ):σ:=
 if xQ n (eG (Dof s)) r (List.replicate k 0) (-1)=true then (fZ Dof doF n r k 0 (List.replicate k 0) s).2 else s
theorem vK(i:Int)(r:aK)(n:Int)(hd:Sl Int)(cs:Sl (Sl Int))(ls:Sl Int):bL (bV i r n (an encI 1 hd) (an er 1 cs) (an encI 1 ls))=true:=by
 unfold bV
 simp only [bL,jc,Bool.and_true];rfl
theorem ym{n:Nat}(h:1≤n)(k:Nat):gI n (List.replicate k (0:Int))=true:=by
 unfold gI;rw [List.all_eq_true]
 intro x hx
 rw [(List.mem_replicate.1 hx).2]
 simp;omega
set_option maxHeartbeats 1000000 in
theorem FO{σ:Type}{Abs:σ→ag→Prop}{Dof:σ→bI→Option (Nat×List Bool)}{doF:List Int→σ→σ}{S B n lo base k:Nat}{r:aK}{g:FuncId}{ga gb:List AV}(d:Nd σ Abs Dof doF S B n lo base k r g ga gb)
  {i0:Int} {hd:Sl Int} {cs:Sl (Sl Int)} {ls:Sl Int} (hf:r.kX) (hk:k=(varsOf r).length) (hk12:k≤12) (hcs:cs.l.map Sl.l=r.body.l.map (fun c=>iG (varsOf r) c.args.l)) (hls:ls.l=r.body.l.map (fun c=>gG (placesOf (varsOf r) c.args.l)))
  {s:σ} {h:ag} {K:Out→ag→Bool} (ha:Abs s h) (hbn:base≤h.next)
  (hK:∀ h',Abs (uC Dof doF n r k s) h'→(∀ b,base≤b→b<h.next→h'.get b=h.get b)→h.next≤h'.next→K (.ret (.tuple [])) h'=true) :
  Sem Tryz.prog 122 [.ptr S 0,.agg (bV i0 r k (an encI 1 hd) (an er 1 cs) (an encI 1 ls)),.func g ga gb] h K:=by
 refine F.pZ ?_
 simp only [ou (x:=.ptr S 0) rfl,cY (vK i0 r k hd cs ls),ou (x:=.func g ga gb) rfl,bindO_some,ag.next_alloc]
 have g0:(((h.alloc (.cells [.ptr S 0])).alloc (.cells (bV i0 r k (an encI 1 hd) (an er 1 cs) (an encI 1 ls)))).alloc (.cells [.func g ga gb])).get h.next=some (.cells [.ptr S 0]):=by
  rw [ag.aW,ag.next_alloc,ag.next_alloc,if_neg (by omega),ag.aW,ag.next_alloc,if_neg (by omega)];exact aC _ _
 have g1:(((h.alloc (.cells [.ptr S 0])).alloc (.cells (bV i0 r k (an encI 1 hd) (an er 1 cs) (an encI 1 ls)))).alloc (.cells [.func g ga gb])).get (h.next+1)=some (.cells (bV i0 r k (an encI 1 hd) (an er 1 cs) (an encI 1 ls))):=by
  rw [ag.aW,ag.next_alloc,ag.next_alloc,if_neg (by omega)];exact aC _ _
 have g2:(((h.alloc (.cells [.ptr S 0])).alloc (.cells (bV i0 r k (an encI 1 hd) (an er 1 cs) (an encI 1 ls)))).alloc (.cells [.func g ga gb])).get (h.next+1+1)=some (.cells [.func g ga gb]):=aC _ _
 have gx:bT h (((h.alloc (.cells [.ptr S 0])).alloc (.cells (bV i0 r k (an encI 1 hd) (an er 1 cs) (an encI 1 ls)))).alloc (.cells [.func g ga gb])):=((bT.alloc _ _).trans (bT.alloc _ _)).trans (bT.alloc _ _)
 have gn:(((h.alloc (.cells [.ptr S 0])).alloc (.cells (bV i0 r k (an encI 1 hd) (an er 1 cs) (an encI 1 ls)))).alloc (.cells [.func g ga gb])).next=h.next+3:=rfl
 generalize (((h.alloc (.cells [.ptr S 0])).alloc (.cells (bV i0 r k (an encI 1 hd) (an er 1 cs) (an encI 1 ls)))).alloc (.cells [.func g ga gb]))=H3 at g0 g1 g2 gx gn ⊢
 have g1':=g1
 simp only [bV] at g1'
 simp only [aV,Nat.reduceAdd,Nat.reduceEqDiff,reduceIte,au g1',ry (show k≤1000000 by omega)]
 have v6:=aC H3 (.cells ((List.replicate k (0:Int)).map iv))
 have x6:=bT.alloc H3 (.cells ((List.replicate k (0:Int)).map iv))
 have n6:(H3.alloc (.cells ((List.replicate k (0:Int)).map iv))).next=H3.next+1:=ag.next_alloc _ _
 generalize (H3.alloc (.cells ((List.replicate k (0:Int)).map iv)))=H6 at v6 x6 n6 ⊢
 obtain ⟨h7,s7,a7,o7,n7⟩:=kC (h:=H6) (z:=.nils) (v:=.slice H3.next 0 k 1) rfl rfl
 obtain ⟨h8,s8,a8,o8,n8⟩:=kC (h:=h7) (z:=.nilf) (v:=.func 166 [] [.ptr (h.next+1) 0,.ptr h.next 0,.ptr H6.next 0]) rfl rfl
 obtain ⟨h9,s9,a9,o9,n9⟩:=kC (h:=h8) (z:=.nilf) (v:=.func 167 [] [.ptr (h.next+1) 0,.ptr (h.next+1+1) 0,.ptr H6.next 0,.ptr h.next 0,.ptr h7.next 0,.ptr h8.next 0]) rfl rfl
 simp only [s7,s8,s9,bindO_some]
 have low:∀ b,b<H6.next→h9.get b=H6.get b:=fun b hb=>by rw [o9 b (by omega),o8 b (by omega),o7 b (by omega)]
 have c:Cells S n k h.next (h.next+1) (h.next+1+1) H6.next h7.next h8.next H3.next base i0 r hd cs ls g ga gb h9:=
  ⟨by rw [low _ (by omega),x6.get _ (by omega)];exact g0,by rw [low _ (by omega),x6.get _ (by omega)];exact g1,by rw [low _ (by omega),x6.get _ (by omega)];exact g2,
   by rw [o9 _ (by omega),o8 _ (by omega)];exact a7,by rw [o9 _ (by omega)];exact a8,a9,
   ⟨by omega,by omega,by omega,by omega,by omega,by omega,by omega⟩,⟨by omega,by omega,by omega,by omega,by omega,by omega,by omega⟩,⟨by omega,by omega,by omega,by omega,by omega,by omega⟩⟩
 have x9:bT h h9:=⟨by omega,fun b hb=>by rw [low b (by omega),x6.get b (by omega),gx.get b hb]⟩
 have v9:h9.get H3.next=some (.cells ((List.replicate k (0:Int)).map iv)):=by rw [low _ (by omega)];exact v6
 have a9':=d.keep _ _ h9 ha hbn (fun b hb=>x9.get b (by omega)) x9.next
 have hl0:(List.replicate k (0:Int)).length=k:=List.length_replicate
 have hin0:=ym d.n1 k
 obtain ⟨sS,sD,sA⟩:=d.st _ _ a9'
 have c4:=c.h4
 rw [← hl0] at c4
 generalize hvs:List.replicate k (0:Int)=vs0 at v9 hl0 hin0 c4
 have heF:uC Dof doF n r k s=if xQ n (eG (Dof s)) r vs0 (-1)=true then (fZ Dof doF n r k 0 vs0 s).2 else s:=by unfold uC;rw [hvs]
 simp only [aV,Nat.reduceAdd,Nat.reduceEqDiff,reduceIte,au c.h5,callV_func,List.nil_append,List.cons_append]
 refine ak (Es (n:=n) (B:=B) (lo:=lo) (S:=S) hf hcs hls sS sD (by have:=d.sb;have:=x9.next;omega) c.h0 c.hi.1 c.h1 c.hi.2.1 c4 c.hi.2.2.2.1 v9 c.hi.2.2.2.2.2.2 (by omega) hin0 d.n1 sA fun h10 x10=>?_)
 have n10:=x10.next
 have c10:=c.keep (fun b _ hb _=>x10.get b hb) n10
 have a10:=d.keep _ _ h10 a9' (by have:=x9.next;omega) (fun b hb=>x10.get b (by have:=x9.next;omega)) n10
 have v10:h10.get H3.next=some (.cells (vs0.map iv)):=by rw [x10.get _ c.hi.2.2.2.2.2.2];exact v9
 simp only [aV,Nat.reduceAdd,Nat.reduceEqDiff,reduceIte]
 cases hask:xQ n (eG (Dof s)) r vs0 (-1) with
 |false=>
  rw [hask,if_neg (by simp)] at heF
  rw [heF] at hK
  simp only [aG]
  exact hK h10 a10 (fun b _ b2=>(x9.trans x10).get b b2) (x9.trans x10).next
 |true=>
  rw [hask,if_pos rfl] at heF
  rw [heF] at hK
  simp only [aI,aV,Nat.reduceAdd,Nat.reduceEqDiff,reduceIte,au c10.h6,callV_func,List.nil_append,List.cons_append]
  refine ak (HK d hf hk hk12 hcs hls k 0 (by omega) vs0 s h10 _ a10 (by have:=x9.next;omega) c10 v10 hl0 hin0 fun h11 a11 v11 f11 n11=>?_)
  simp only [aV,Nat.reduceAdd,Nat.reduceEqDiff,reduceIte]
  exact hK h11 a11 (fun b b1 b2=>by rw [f11 b b1 (by have:=x9.next;omega) (by omega),(x9.trans x10).get b b2]) (by have:=x9.next;omega)
end
end Go.AM
namespace Go.AM
open Go Go.Proofs
noncomputable section
abbrev DB:=bI→Option (Nat×List Bool)
def eu(D D0:DB):Prop:=∀ nm,(D nm).map (fun p=>(p.1,p.2.length))=(D0 nm).map (fun p=>(p.1,p.2.length))
theorem eu.get{D D0:DB}(h:eu D D0){nm:bI}{p0:Nat×List Bool}(h0:D0 nm=some p0):∃ p,D nm=some p∧p.1=p0.1∧p.2.length=p0.2.length:=by
 have:=h nm
 rw [h0] at this
 cases hd:D nm with
 |none=>rw [hd] at this;cases this
 |some p=>
  rw [hd] at this
  simp only [Option.map_some,Option.some.injEq,Prod.mk.injEq] at this
  exact ⟨p,rfl,this.1,this.2⟩
theorem eu.back{D D0:DB}(h:eu D D0){nm:bI}{p:Nat×List Bool}(hp:D nm=some p):∃ p0,D0 nm=some p0∧p.1=p0.1∧p.2.length=p0.2.length:=by
 have:=h nm
 rw [hp] at this
 cases hd:D0 nm with
 |none=>rw [hd] at this;cases this
 |some p0=>
  rw [hd] at this
  simp only [Option.map_some,Option.some.injEq,Prod.mk.injEq] at this
  exact ⟨p0,rfl,this.1,this.2⟩
theorem eu.set{D D0:DB}(h:eu D D0){nm:bI}{p:Nat×List Bool}(hp:D nm=some p){d:List Bool}(hd:d.length=p.2.length):eu (jw D nm p.1 d) D0:=fun j=>by
 rw [← h j]
 unfold jw
 by_cases e:j=nm
 ·rw [if_pos e,e,hp,Option.map_some,Option.map_some,hd]
 ·rw [if_neg e]
def pG(n:Nat)(r:aK)(vs:List Int)(s:DB×Bool):DB×Bool:=
 match s.1 r.name with
 |none=>s
 |some p=>if p.2.getD (gy n (bw vs (placesOf (varsOf r) r.args.l))) false=true then s else (jw s.1 r.name p.1 (p.2.set (gy n (bw vs (placesOf (varsOf r) r.args.l))) true),true)
structure mH (S B n lo base P3 P5 P6 PL:Nat) (D0:DB) (r:aK) (i0:Int) (k:Nat) (hd:Sl Int) (cs:Sl (Sl Int)) (ls:Sl Int) (ng:FuncId) (na nb:List AV) (h0:ag) (s:DB×Bool) (h:ag):Prop where
 hS:h.get S=some (.cells [.int .i64 (n:Int),.map B])
 hD:ei s.1 h B lo
 H7:eu s.1 D0
 h3:h.get P3=some (.cells [.ptr S 0])
 h5:h.get P5=some (.cells [.func ng na nb])
 h6:h.get P6=some (.cells [.bool s.2])
 hL:h.get PL=some (.cells (bV i0 r k (an encI 1 hd) (an er 1 cs) (an encI 1 ls)))
 lt:base≤h.next
 old:∀ b,b<base→b≠P6→(∀ nm p,D0 nm=some p→b≠p.1)→h.get b=h0.get b
structure GR (S B n lo base P3 P5 P6 PL:Nat) (D0:DB) (r:aK) (k:Nat) (hd:Sl Int) (ng:FuncId) (na nb:List AV):Prop where
 n1:1≤n
 n64:n≤64
 low:S<base∧B<base∧P3<base∧P5<base∧P6<base∧PL<base
 rows:∀ nm p,D0 nm=some p→p.1<base∧p.1≠S∧p.1≠P3∧p.1≠P5∧p.1≠P6∧p.1≠PL
 six:P6≠S∧P6≠B∧P6≠P3∧P6≠P5∧P6≠PL
 ask:∀ D,eu D D0→BT n D r
 head:n ^ r.args.l.length≤4096∧r.args.l.length≤12∧∃ p,D0 r.name=some p∧p.2.length=n ^ r.args.l.length
 hkk:k=(varsOf r).length
 hhd:hd.l=iG (varsOf r) r.args.l
 note:∀ (i:Int) (r:aK) (k:Int) (hd:Sl Int) (cs:Sl (Sl Int)) (ls:Sl Int) (y:AV) (h:ag) (K:Out→ag→Bool),(∀ h',bT h h'→K (.ret (.tuple [])) h'=true)→Sem Tryz.prog ng (na++([.agg (bV i r k (an encI 1 hd) (an er 1 cs) (an encI 1 ls)),y]++nb)) h K
theorem mH.keep{S B n lo base P3 P5 P6 PL:Nat}{D0:DB}{r:aK}{i0:Int}{k:Nat}{hd:Sl Int}{cs:Sl (Sl Int)}{ls:Sl Int}{ng:FuncId}{na nb:List AV}{h0:ag}(o:GR S B n lo base P3 P5 P6 PL D0 r k hd ng na nb){s:DB×Bool}{h h':ag}
  (a:mH S B n lo base P3 P5 P6 PL D0 r i0 k hd cs ls ng na nb h0 s h) (hb:∀ b,b<base→h'.get b=h.get b) (hn:h.next≤h'.next):mH S B n lo base P3 P5 P6 PL D0 r i0 k hd cs ls ng na nb h0 s h':=by
 obtain ⟨l1,l2,l3,l4,l5,l6⟩:=o.low
 refine ⟨by rw [hb _ l1];exact a.hS,?_,a.H7,by rw [hb _ l3];exact a.h3,by rw [hb _ l4];exact a.h5,by rw [hb _ l5];exact a.h6,by rw [hb _ l6];exact a.hL,Nat.le_trans a.lt hn,fun b b1 b2 b3=>by rw [hb b b1];exact a.old b b1 b2 b3⟩
 obtain ⟨es,ck,m,e1,e2,e3⟩:=a.hD.ex
 refine ⟨⟨es,ck,m,by rw [hb _ l2];exact e1,e2,e3⟩,fun nm p hp=>?_,a.hD.inj,Nat.lt_of_lt_of_le a.hD.lt hn⟩
 obtain ⟨q1,q2,q3,q4⟩:=a.hD.blk nm p hp
 obtain ⟨p0,r1,r2,_⟩:=a.H7.back hp
 have:=(o.rows nm p0 r1).1
 exact ⟨q1,Nat.lt_of_lt_of_le q2 hn,q3,by rw [hb _ (by omega)];exact q4⟩
set_option maxHeartbeats 1000000 in
theorem Jx{S B n lo base P3 P5 P6 PL:Nat}{D0:DB}{r:aK}{i0:Int}{k:Nat}{hd:Sl Int}{cs:Sl (Sl Int)}{ls:Sl Int}{ng:FuncId}{na nb:List AV}{h0:ag}(o:GR S B n lo base P3 P5 P6 PL D0 r k hd ng na nb){s:DB×Bool}{h:ag}{V:Nat}{vs:List Int}{K:Out→ag→Bool}
  (a:mH S B n lo base P3 P5 P6 PL D0 r i0 k hd cs ls ng na nb h0 s h) (hVb:base≤V) (hVn:V<h.next) (hV:h.get V=some (.cells (vs.map iv))) (hvl:vs.length=k) (hvs:gI n vs=true)
  (hK:∀ h',mH S B n lo base P3 P5 P6 PL D0 r i0 k hd cs ls ng na nb h0 (pG n r vs s) h'→(∀ b,base≤b→b<h.next→h'.get b=h.get b)→h.next≤h'.next→K (.ret (.bool true)) h'=true) :
  Sem Tryz.prog 158 ([]++([.slice V 0 vs.length 1]++[.ptr PL 0,.ptr P3 0,.ptr P6 0,.ptr P5 0])) h K:=by
 obtain ⟨l1,l2,l3,l4,l5,l6⟩:=o.low
 obtain ⟨hpow,h12,p0,hp0,hp0l⟩:=o.head
 have hL:=a.hL
 simp only [bV] at hL
 simp only [List.nil_append,List.cons_append]
 refine F.nE ?_
 simp only [aV,Nat.reduceAdd,Nat.reduceEqDiff,reduceIte,au hL]
 have hpl:∀ p ∈ placesOf (varsOf r) r.args.l,p<vs.length:=by rw [hvl,o.hkk];exact jM lX
 have hplen:(placesOf (varsOf r) r.args.l).length=r.args.l.length:=by unfold placesOf;simp
 refine ak (GO (ps:=placesOf (varsOf r) r.args.l) hV hVn rfl o.hhd hpl (by rw [hplen];omega) fun h3 t1 x3 t2=>?_)
 have lt0:=a.lt
 have a3:=mH.keep o a (fun b hb=>x3.get b (by omega)) x3.next
 obtain ⟨p,hp,hpb,hplen2⟩:=a3.H7.get hp0
 have hL3:=a3.hL
 simp only [bV] at hL3
 have hvlen:=iW vs (placesOf (varsOf r) r.args.l)
 have hin:=kG hvs hpl
 rw [← hvlen]
 have hdo:pG n r vs s=if p.2.getD (gy n (bw vs (placesOf (varsOf r) r.args.l))) false=true then s else (jw s.1 r.name p.1 (p.2.set (gy n (bw vs (placesOf (varsOf r) r.args.l))) true),true):=by unfold pG;rw [hp]
 have hrk:gy n (bw vs (placesOf (varsOf r) r.args.l))<p.2.length:=by
  have:=kE hin
  rw [hvlen,hplen] at this
  omega
 have hbit:p.2[gy n (bw vs (placesOf (varsOf r) r.args.l))]?=some (p.2.getD (gy n (bw vs (placesOf (varsOf r) r.args.l))) false):=by rw [List.getD_eq_getElem?_getD,List.getElem?_eq_getElem hrk];rfl
 obtain ⟨b1,b2,b3,b4⟩:=a3.hD.blk r.name p hp
 have hrank:∀ {K:Out→ag→Bool},K (.ret (.int .i64 ((gy n (bw vs (placesOf (varsOf r) r.args.l)):Nat):Int))) h3=true→Sem Tryz.prog 69 [.ptr S 0,.slice h.next 0 (bw vs (placesOf (varsOf r) r.args.l)).length 1] h3 K:=fun hk=>wN a3.hS o.n1 t1 (by rw [hvlen,hplen];exact h12) (by rw [hvlen,hplen];exact hpow) hin hk
 generalize gy n (bw vs (placesOf (varsOf r) r.args.l))=rk at hdo hrk hbit hrank
 simp only [aV,Nat.reduceAdd,Nat.reduceEqDiff,reduceIte,au a3.h3,cm,au a3.hS,au hL3,a3.hD.look hp]
 refine ak (hrank ?_)
 simp only [aV,Nat.reduceAdd,Nat.reduceEqDiff,reduceIte,jT hrk,CY b4 hbit]
 cases hbv:p.2.getD rk false with
 |true=>
  rw [hbv,if_pos rfl] at hdo
  simp only [Bool.not_true,aG]
  rw [hdo] at hK
  exact hK h3 a3 (fun b _ b2=>x3.get b b2) x3.next
 |false=>
  rw [hbv,if_neg (by simp)] at hdo
  simp only [Bool.not_false,aI,au a3.h3,aV,Nat.reduceAdd,Nat.reduceEqDiff,reduceIte]
  refine ak (hrank ?_)
  obtain ⟨w1,w2,w3,w4,w5,w6⟩:=o.rows r.name p0 hp0
  rw [← hpb] at w1 w2 w3 w4 w5 w6
  obtain ⟨y1,y2,y3,y4,y5⟩:=o.six
  have hset:=a3.hD.set hp (d:=p.2.set rk true) (by simp)
  have st1:=z6 (v:=true) b4 hrk
  have g6:(h3.set p.1 (.cells ((p.2.set rk true).map bv))).get P6=some (.cells [.bool s.2]):=by rw [ag.aO,if_neg (Ne.symm w5)];exact a3.h6
  have st2:bg 1 (.ptr P6 0) (.bool true) (h3.set p.1 (.cells ((p.2.set rk true).map bv)))=some ((h3.set p.1 (.cells ((p.2.set rk true).map bv))).set P6 (.cells [.bool true])):=by
   rw [cZ (n:=1) g6 rfl rfl (by simp)];rfl
  have q:∀ b,b≠p.1→b≠P6→((h3.set p.1 (.cells ((p.2.set rk true).map bv))).set P6 (.cells [.bool true])).get b=h3.get b:=fun b hb1 hb2=>by rw [ag.aO,if_neg hb2,ag.aO,if_neg hb1]
  have q6:((h3.set p.1 (.cells ((p.2.set rk true).map bv))).set P6 (.cells [.bool true])).get P6=some (.cells [.bool true]):=by rw [ag.aO,if_pos rfl]
  have qn:((h3.set p.1 (.cells ((p.2.set rk true).map bv))).set P6 (.cells [.bool true])).next=h3.next:=by rw [ag.next_set,ag.next_set]
  have hD':ei (jw s.1 r.name p.1 (p.2.set rk true)) ((h3.set p.1 (.cells ((p.2.set rk true).map bv))).set P6 (.cells [.bool true])) B lo:=by
   obtain ⟨es,ck,m,e1,e2,e3⟩:=hset.ex
   refine ⟨⟨es,ck,m,by rw [ag.aO,if_neg (Ne.symm y2)];exact e1,e2,e3⟩,fun nm p' hp'=>?_,hset.inj,by rw [ag.next_set];exact hset.lt⟩
   obtain ⟨c1,c2,c3,c4⟩:=hset.blk nm p' hp'
   obtain ⟨p0',d1,d2,_⟩:=(a3.H7.set hp (d:=p.2.set rk true) (by simp)).back hp'
   have:=(o.rows nm p0' d1).2.2.2.2.1
   exact ⟨c1,by rw [ag.next_set];exact c2,c3,by rw [ag.aO,if_neg (by rw [d2];exact this)];exact c4⟩
  simp only [aV,Nat.reduceAdd,Nat.reduceEqDiff,reduceIte,jT hrk,st1,st2]
  generalize ((h3.set p.1 (.cells ((p.2.set rk true).map bv))).set P6 (.cells [.bool true]))=H at q q6 qn hD' ⊢
  have aH:mH S B n lo base P3 P5 P6 PL D0 r i0 k hd cs ls ng na nb h0 (pG n r vs s) H:=by
   rw [hdo]
   exact ⟨by rw [q S (Ne.symm w2) (Ne.symm y1)];exact a3.hS,hD',a3.H7.set hp (by simp),by rw [q P3 (Ne.symm w3) (Ne.symm y3)];exact a3.h3,by rw [q P5 (Ne.symm w4) (Ne.symm y4)];exact a3.h5,q6,by rw [q PL (Ne.symm w6) (Ne.symm y5)];exact a3.hL,by rw [qn];exact a3.lt,fun b b1 b2 b3=>by rw [q b (by rw [hpb];exact b3 _ _ hp0) b2];exact a3.old b b1 b2 b3⟩
  have hLH:=aH.hL
  simp only [bV] at hLH
  simp only [au aH.h5,au hLH,GQ,aV,Nat.reduceAdd,Nat.reduceEqDiff,reduceIte,callV_func]
  refine ak (o.note i0 r k hd cs ls _ H _ fun h9 x9=>?_)
  simp only [aV,Nat.reduceAdd,Nat.reduceEqDiff,reduceIte]
  have ltH:=aH.lt
  have n9:=x9.next
  exact hK h9 (mH.keep o aH (fun b hb=>x9.get b (by omega)) n9) (fun b b1 b2=>by have:=x3.next;rw [x9.get b (by omega),q b (by omega) (by omega),x3.get b b2]) (by have:=x3.next;omega)
theorem FP{S B n lo base P3 P5 P6 PL:Nat}{D0:DB}{r:aK}{i0:Int}{k:Nat}{hd:Sl Int}{cs:Sl (Sl Int)}{ls:Sl Int}{ng:FuncId}{na nb:List AV}{h0:ag}(o:GR S B n lo base P3 P5 P6 PL D0 r k hd ng na nb) :
  Nd (DB×Bool) (mH S B n lo base P3 P5 P6 PL D0 r i0 k hd cs ls ng na nb h0) (fun s=>s.1) (pG n r) S B n lo base k r 158 [] [.ptr PL 0,.ptr P3 0,.ptr P6 0,.ptr P5 0]:=
 ⟨o.n1,o.n64,o.low.1,fun s h a=>⟨a.hS,a.hD,o.ask _ a.H7⟩,fun s h h' a _ hb hn=>mH.keep o a hb hn,fun s h V vs K a h1 h2 h3 h4 h5 hK=>Jx o a h1 h2 h3 h4 h5 hK⟩
end
end Go.AM
namespace Go.AM
open Go Go.Proofs
noncomputable section
theorem Aa{σ:Type}{Dof:σ→DB}{doF:List Int→σ→σ}{n:Nat}{r:aK}{k:Nat}{Q:σ→Prop}(hQ:∀ vs s,vs.length=k→gI n vs=true→Q s→Q (doF vs s)):∀ (m v:Nat) (vs:List Int) (s:σ),vs.length=k→gI n vs=true→Q s →
  ((fZ Dof doF n r m v vs s).1.length=k∧gI n (fZ Dof doF n r m v vs s).1=true)∧Q (fZ Dof doF n r m v vs s).2
 |0,v,vs,s,h1,h2,h3=>⟨⟨h1,h2⟩,hQ vs s h1 h2 h3⟩
 |m+1,v,vs,s,h1,h2,h3=>by
  refine iA (P:=fun (a:List Int×σ)=>(a.1.length=k∧gI n a.1=true)∧Q a.2) ⟨⟨h1,h2⟩,h3⟩ fun a x hx ha=>?_
  have hxn:=List.mem_range.1 hx
  have h3:(a.1.set v (x:Int)).length=k:=by rw [List.length_set];exact ha.1.1
  have h4:=oJ ha.1.2 v hxn
  unfold jx
  split
  ·exact Aa hQ m (v+1) _ _ h3 h4 ha.2
  ·exact ⟨⟨h3,h4⟩,ha.2⟩
theorem oK{σ:Type}{Dof:σ→DB}{doF:List Int→σ→σ}{n:Nat}{r:aK}{k:Nat}{Q:σ→Prop}(n1:1≤n)(hQ:∀ vs s,vs.length=k→gI n vs=true→Q s→Q (doF vs s)){s:σ}(hs:Q s):Q (uC Dof doF n r k s):=by
 unfold uC
 split
 ·exact (Aa hQ k 0 _ _ List.length_replicate (ym n1 k) hs).2
 ·exact hs
structure uD where
 i:Int
 r:aK
 hd:Sl Int
 cs:Sl (Sl Int)
 ls:Sl Int
def qy(p:uD):List AV:=bV p.i p.r (varsOf p.r).length (an encI 1 p.hd) (an er 1 p.cs) (an encI 1 p.ls)
theorem BU(p:uD):(qy p).length=8:=rfl
theorem BV(p:uD):bL (qy p)=true:=vK _ _ _ _ _ _
structure uD.ok (p:uD):Prop where
 kX:p.r.kX
 k12:(varsOf p.r).length≤12
 hd:p.hd.l=iG (varsOf p.r) p.r.args.l
 cs:p.cs.l.map Sl.l=p.r.body.l.map (fun c=>iG (varsOf p.r) c.args.l)
 ls:p.ls.l=p.r.body.l.map (fun c=>gG (placesOf (varsOf p.r) c.args.l))
def jk(n:Nat)(r:aK)(s:DB×Bool):DB×Bool:=uC (fun s=>s.1) (pG n r) n r (varsOf r).length s
def jY(n:Nat)(rs:List aK)(s:DB×Bool):DB×Bool:=rs.foldl (fun s r=>jk n r s) s
theorem FQ{n:Nat}{rs:List aK}{i:Nat}{r:aK}(hr:rs[i]?=some r)(s:DB×Bool):jY n (rs.take (i+1)) s=jk n r (jY n (rs.take i) s):=by
 unfold jY;rw [List.take_add_one,hr];simp
inductive Reach (n:Nat) (rs:List aK) (D0:DB):DB→Prop
 |refl:Reach n rs D0 D0
 |step (D:DB):Reach n rs D0 D→Reach n rs D0 (jY n rs (D,false)).1
theorem C0:∀ (l:List Bool) (i:Nat),l[i]?=some false→(l.set i true).count false<l.count false
 |[],i,h=>by simp at h
 |b :: l,0,h=>by
  simp only [List.getElem?_cons_zero,Option.some.injEq] at h
  subst h;simp
 |b :: l,i+1,h=>by
  rw [List.getElem?_cons_succ] at h
  have:=C0 l i h
  rw [List.set_cons_succ,List.count_cons,List.count_cons];omega
def Nf(D:DB)(nm:bI):Nat:=match D nm with|none=>0|some p=>p.2.count false
def Ab(names:List bI)(D:DB):Nat:=(names.map (Nf D)).sum
structure Eu (names:List bI) (D0 D:DB) (s:DB×Bool):Prop where
 H7:eu s.1 D0
 le:Ab names s.1≤Ab names D
 lt:s.2=true→Ab names s.1<Ab names D
 same:s.2=false→s.1=D
theorem Jy{names:List bI}{D0 D:DB}{n:Nat}{r:aK}{k:Nat}(hin:r.name ∈ names)(hk:k=(varsOf r).length)(hh:∃ p,D0 r.name=some p∧p.2.length=n ^ r.args.l.length){vs:List Int}{s:DB×Bool}(hvl:vs.length=k)(hvs:gI n vs=true)(q:Eu names D0 D s):Eu names D0 D (pG n r vs s):=by
 obtain ⟨p0,hp0,hl0⟩:=hh
 obtain ⟨p,hp,_,hl⟩:=q.H7.get hp0
 have hpl:∀ p ∈ placesOf (varsOf r) r.args.l,p<vs.length:=by rw [hvl,hk];exact jM lX
 have hplen:(placesOf (varsOf r) r.args.l).length=r.args.l.length:=by unfold placesOf;simp
 have hrk:gy n (bw vs (placesOf (varsOf r) r.args.l))<p.2.length:=by
  have:=kE (kG hvs hpl)
  rw [iW,hplen] at this
  omega
 have hdo:pG n r vs s=if p.2.getD (gy n (bw vs (placesOf (varsOf r) r.args.l))) false=true then s else (jw s.1 r.name p.1 (p.2.set (gy n (bw vs (placesOf (varsOf r) r.args.l))) true),true):=by unfold pG;rw [hp]
 rw [hdo]
 generalize gy n (bw vs (placesOf (varsOf r) r.args.l))=rk at hrk ⊢
 split
 ·exact q
 ·rename_i hb
  have hbit:p.2[rk]?=some false:=by
   rw [List.getD_eq_getElem?_getD,List.getElem?_eq_getElem hrk] at hb
   rw [List.getElem?_eq_getElem hrk]
   simp only [Option.getD_some,Bool.not_eq_true] at hb
   rw [hb]
  have hlt:Ab names (jw s.1 r.name p.1 (p.2.set rk true))<Ab names s.1:=by
   refine Lev.E5 (fun nm=>?_) (t:=r.name) ?_ hin
   ·unfold Nf jw
    by_cases e:nm=r.name
    ·subst e;rw [if_pos rfl,hp];exact Nat.le_of_lt (C0 _ _ hbit)
    ·rw [if_neg e];exact Nat.le_refl _
   ·unfold Nf jw
    rw [if_pos rfl,hp];exact C0 _ _ hbit
  have:=q.le
  exact ⟨q.H7.set hp (by simp),by show Ab names (jw s.1 r.name p.1 (p.2.set rk true))≤_;omega,fun _=>by show Ab names (jw s.1 r.name p.1 (p.2.set rk true))<_;omega,fun h=>by cases h⟩
theorem Ev{names:List bI}{D0 D:DB}{n:Nat}{r:aK}(n1:1≤n)(hin:r.name ∈ names)(hh:∃ p,D0 r.name=some p∧p.2.length=n ^ r.args.l.length){s:DB×Bool}(q:Eu names D0 D s):Eu names D0 D (jk n r s):=
 oK n1 (fun vs s h1 h2 h3=>Jy hin rfl hh h1 h2 h3) q
end
end Go.AM
namespace Go.AM
open Go Go.Proofs
noncomputable section
theorem wO(nm:bI)(xs:List bI):kg nm xs=(dZ nm&&jX xs):=by
 unfold kg jX;rw [Bool.and_comm (xs.all dZ)]
def iD(r:aK):Bool:=dZ r.name&&(jX r.args.l&&(decide (r.body.l.length≤20)&&(r.body.l.all fO&&decide ((varsOf r).length≤12))))
theorem cA{r:aK}(hok:r.ok)(hf:r.kX){h:ag}{K:Out→ag→Bool}(hK:K (.ret (.bool (iD r))) h=true) :
  Sem Tryz.prog 84 [.agg [.str r.name,an encS 1 r.args,an b6 4 r.body]] h K:=by
 refine Sem.data (r:=.bool (iD r)) ?_ (by have:=ef r;simpa [aM,AV.pureL,AV.pure] using this) hK
 clear hK
 have hbb:r.body.l.length≤cz:=hok.2.2.2.1
 refine F.zn ?_
 have g0:(ag.alloc ag.empty (.cells (aM r))).get 0=some (.cells (aM r)):=aC _ _
 have gn:(ag.alloc ag.empty (.cells (aM r))).next=1:=rfl
 have hb:cK (.agg [.str r.name,an encS 1 r.args,an b6 4 r.body])=some (aM r):=cY (iz r)
 simp only [hb,bindO_some,bG]
 generalize (ag.alloc ag.empty (.cells (aM r)))=H at g0 gn ⊢
 have fin:∀ (b:Bool) h',b=iD r→mu (.bool (iD r)) (.ret (.bool b)) h'=true:=fun b h' hb=>by rw [hb];exact de rfl
 generalize mu (.bool (iD r))=R at fin ⊢
 simp only [aV,Nat.reduceAdd,Nat.reduceEqDiff,reduceIte,au g0,aM]
 refine ak (dO ?_)
 simp only [aV,Nat.reduceAdd,Nat.reduceEqDiff,reduceIte]
 cases hn:dZ r.name with
 |false=>simp only [Bool.not_false,aI];exact fin _ _ (by simp [iD,hn])
 |true=>
 simp only [Bool.not_true,aG,aV,Nat.reduceAdd,Nat.reduceEqDiff,reduceIte,au g0,aM]
 refine ak (dr hok.2.1 ?_)
 simp only [aV,Nat.reduceAdd,Nat.reduceEqDiff,reduceIte]
 cases hnd:jX r.args.l with
 |false=>simp only [Bool.not_false,aI];exact fin _ _ (by simp [iD,hnd])
 |true=>
 simp only [Bool.not_true,aG,aV,Nat.reduceAdd,Nat.reduceEqDiff,reduceIte,au g0,aM]
 by_cases h20:20<r.body.l.length
 ·simp only [decide_eq_true (by omega:(20:Int)<(r.body.l.length:Int)),aI]
  exact fin _ _ (by simp [iD,show ¬ r.body.l.length≤20 by omega])
 simp only [decide_eq_false (by omega:¬ (20:Int)<(r.body.l.length:Int)),aG]
 have h20':r.body.l.length≤20:=by omega
 refine aB 0 r.body.l.length (Nat.zero_le _) (fun i e h'=>bT H h'∧e 1 = .ptr 0 0∧e 3 = .int .i64 (i:Int)∧(r.body.l.take i).all fO=true) ⟨bT.refl _,rfl,rfl,rfl⟩ ?_ ?_
 ·rintro i e h' _ hi ⟨x1,e1,e3,ht⟩ K' hnn hx hr hp
  have hv:r.body.l[i]?=some r.body.l[i]:=List.getElem?_eq_getElem hi
  generalize r.body.l[i]=c at hv
  have hcok:=hok.2.2.2.2 c (List.mem_of_getElem? hv)
  have q0:h'.get 0=some (.cells (aM r)):=by rw [x1.get 0 (by omega)];exact g0
  obtain ⟨H2,hs2,k1,ko,kn⟩:=cO (h:=h') (zs:=[.int .i64 0,.bool false,.str [],.nils]) (cs:=b6 c) (n:=4) rfl rfl (gN c)
  have x2:bT H H2:=x1.trans ⟨by omega,fun b hb=>ko b (by omega)⟩
  have no:fO c=false→∀ h',R (.ret (.bool false)) h'=true:=fun hc h'=>fin _ _ (by simp [iD,all_false hv hc])
  rw [F.cA.aN]
  simp only [e1,e3,aV,Nat.reduceAdd,Nat.reduceEqDiff,reduceIte,au q0,aM,aY hi,aP r.body hi,dQ gL hv,hs2]
  simp only [aV,Nat.reduceAdd,Nat.reduceEqDiff,reduceIte,au k1,b6,cQ]
  by_cases k0:c.kind=0
  ·have hco:fO c=(dZ c.name&&jX c.args.l):=by unfold fO;rw [if_pos k0,wO]
   simp only [decide_eq_true k0,aI,aV,Nat.reduceAdd,Nat.reduceEqDiff,reduceIte,au k1,b6]
   refine ak (dO ?_)
   simp only [aV,Nat.reduceAdd,Nat.reduceEqDiff,reduceIte]
   cases n1:dZ c.name with
   |false=>
    simp only [Bool.not_false,aI]
    rw [hr,F.cA.bq]
    exact no (by rw [hco,n1];rfl) _
   |true=>
   simp only [Bool.not_true,aG,aV,Nat.reduceAdd,Nat.reduceEqDiff,reduceIte,au k1,b6]
   refine ak (dr hcok.2.1 ?_)
   simp only [aV,Nat.reduceAdd,Nat.reduceEqDiff,reduceIte]
   cases n2:jX c.args.l with
   |false=>
    simp only [Bool.not_false,aI]
    rw [hr,F.cA.bq]
    exact no (by rw [hco,n2,Bool.and_false]) _
   |true=>
   simp only [Bool.not_true,aG,aE hi hbb,bindO_some]
   exact hnn _ _ ⟨x2,e1,rfl,gJ hv ht (by rw [hco,n1,n2];rfl)⟩
  simp only [decide_eq_false k0,aG]
  have J:∀ (e:Env) (b:Bool),e 1 = .ptr 0 0→e 3 = .int .i64 (i:Int)→e 4 = .ptr h'.next 0→e 44 = .bool b→(b=true↔(c.kind=1∨c.kind=2))→F.cA.J0 K' ⟨e,67,[],H2⟩=true:=by
   intro e b e1 e3 e4 e44 hb
   rw [F.cA.zm]
   simp only [e4,e44,aV,Nat.reduceAdd,Nat.reduceEqDiff,reduceIte]
   cases b with
   |false=>
    simp only [aG]
    have:¬ (c.kind=1∨c.kind=2):=fun h=>by have:=hb.2 h;cases this
    rw [hr,F.cA.bq]
    exact no (by unfold fO;rw [if_neg k0,if_neg this]) _
   |true=>
    have hk:=hb.1 rfl
    have hc1:fO c=(decide (c.name = [])&&(decide (c.args.l.length=2)&&c.args.l.all dZ)):=by simp only [fO,if_neg k0,if_pos hk]
    simp only [aI,aV,Nat.reduceAdd,Nat.reduceEqDiff,reduceIte,au k1,b6,mW]
    by_cases hn:c.name = []
    ·simp only [decide_eq_true hn,Bool.not_true,aG,aV,Nat.reduceAdd,Nat.reduceEqDiff,reduceIte,au k1,b6,cQ]
     by_cases h2:c.args.l.length=2
     ·simp only [decide_eq_true (by omega:(c.args.l.length:Int)=2),Bool.not_true,aG,aV,Nat.reduceAdd,Nat.reduceEqDiff,reduceIte,au k1,b6]
      refine ak (dr hcok.2.1 ?_)
      simp only [aV,Nat.reduceAdd,Nat.reduceEqDiff,reduceIte]
      have hnm:jX c.args.l=c.args.l.all dZ:=by unfold jX;rw [decide_eq_true (by omega:c.args.l.length≤12),Bool.and_true]
      rw [hnm]
      cases n2:c.args.l.all dZ with
      |false=>
       simp only [Bool.not_false,aI]
       rw [hr,F.cA.bq]
       exact no (by rw [hc1,n2,Bool.and_false,Bool.and_false]) _
      |true=>
       simp only [Bool.not_true,aG,e3,aE hi hbb,bindO_some]
       exact hnn _ _ ⟨x2,e1,rfl,gJ hv ht (by rw [hc1,n2];simp [hn,h2])⟩
     ·simp only [decide_eq_false (by omega:¬ (c.args.l.length:Int)=2),Bool.not_false,aI]
      rw [hr,F.cA.bq]
      exact no (by rw [hc1];simp [h2]) _
    ·simp only [decide_eq_false hn,Bool.not_false,aI]
     rw [hr,F.cA.bq]
     exact no (by rw [hc1];simp [hn]) _
  by_cases k1':c.kind=1
  ·simp only [decide_eq_true k1',aI]
   exact J _ true e1 e3 rfl rfl (by simp [k1'])
  ·simp only [decide_eq_false k1',aG]
   exact J _ (decide (c.kind=2)) e1 e3 rfl rfl (by simp [k1'])
 ·rintro e h' ⟨x1,e1,e3,ht⟩ K' hx
  have q0:h'.get 0=some (.cells (aM r)):=by rw [x1.get 0 (by omega)];exact g0
  rw [F.cA.aN]
  simp only [e1,e3,aV,Nat.reduceAdd,Nat.reduceEqDiff,reduceIte,au q0,aM,aR]
  rw [hx,F.cA.aD]
  simp only [e1,aV,Nat.reduceAdd,Nat.reduceEqDiff,reduceIte,au q0,aM,oG]
  refine ak (bF hf fun x hx1=>?_)
  simp only [aV,Nat.reduceAdd,Nat.reduceEqDiff,reduceIte,hx1]
  rw [List.take_of_length_le (Nat.le_refl _)] at ht
  refine fin _ _ ?_
  unfold iD
  rw [hn,hnd,decide_eq_true h20',ht]
  by_cases h12:(varsOf r).length≤12
  ·rw [decide_eq_true h12,decide_eq_true (by omega:((varsOf r).length:Int)≤12)];rfl
  ·rw [decide_eq_false h12,decide_eq_false (by omega:¬ ((varsOf r).length:Int)≤12)];rfl
def dY(cs:List eN):List (bI×Int):=(cs.filter fun c=>decide (c.kind=0)).map fun c=>(c.name,(c.args.l.length:Int))
def tg(r:aK):List (bI×Int):=(r.name,(r.args.l.length:Int)) :: dY r.body.l
def cC(rs:List aK):List (bI×Int):=rs.flatMap tg
theorem Ac{cs:List eN}{j:Nat}{c:eN}(hc:cs[j]?=some c):dY (cs.take (j+1))=dY (cs.take j)++if c.kind=0 then [(c.name,(c.args.l.length:Int))] else []:=by
 unfold dY;rw [List.take_add_one,hc,Option.toList_some,List.filter_append,List.map_append]
 by_cases h:c.kind=0<;>simp [h]
theorem ni(cs:List eN):(dY cs).length≤cs.length:=by
 unfold dY;rw [List.length_map];exact List.length_filter_le _ _
theorem qz:∀ rs:List aK,(∀ r ∈ rs,r.body.l.length≤20)→(cC rs).length≤rs.length*21
 |[],_=>Nat.le_refl _
 |r :: rs,h=>by
  have h1:=qz rs fun q hq=>h q (List.mem_cons_of_mem _ hq)
  have h2:=ni r.body.l
  have h3:=h r List.mem_cons_self
  show (tg r++cC rs).length≤_
  unfold tg
  rw [List.length_append,List.length_cons,List.length_cons];omega
theorem cy{rules:Sl aK}(h60:rules.l.length≤60)(h20:∀ r ∈ rules.l,r.body.l.length≤20){h:ag}{K:Out→ag→Bool}(hK:∀ x:Sl (bI×Int),x.l=cC rules.l→K (.ret (an lf 2 x)) h=true) :
  Sem Tryz.prog 85 [an aM 3 rules] h K:=by
 have hbig:rules.l.length≤cz:=by unfold cz;omega
 have hmx:cX=140737488355328:=rfl
 have main:Sem Tryz.prog 85 [an aM 3 rules] ag.empty (fun o h'=>yes (∃ v,∃ x:Sl (bI×Int),o = .ret v∧x.l=cC rules.l∧Fz true h' v (an lf 2 x))):=by
  refine F.xj ?_
  refine aB 0 rules.l.length (Nat.zero_le _) (fun i e h'=>∃ a,Own lf 2 0 h' a (cC (rules.l.take i))∧e 0=an aM 3 rules∧e 3=a∧e 4 = .int .i64 (i:Int)) ⟨.nils,.nil,rfl,rfl,rfl⟩ ?_ ?_
  ·rintro i e h' _ hi ⟨a,o,e0,e3,e4⟩ K' hn hx hr hp
   have hv:rules.l[i]?=some rules.l[i]:=List.getElem?_eq_getElem hi
   generalize rules.l[i]=r at hv
   have hb20:=h20 r (List.mem_of_getElem? hv)
   have hbb:r.body.l.length≤cz:=by unfold cz;omega
   have ld:∀ j,j<3→∀ h,ai none (.iptr (rules.l.flatMap aM) (i*3+j)) h=(aM r)[j]?:=fun j hj h=>eZ fe hv hj
   have ld0:∀ h,ai none (.iptr (rules.l.flatMap aM) (i*3)) h=some (.str r.name):=fun h=>ld 0 (by omega) h
   have hal:(cC (rules.l.take i)).length≤1260:=by
    have h1:=qz (rules.l.take i) fun q hq=>h20 q (List.mem_of_mem_take hq)
    have h2:=List.length_take_le i rules.l
    omega
   obtain ⟨a1,h1,p1,p2,p3,p4,p5,p6⟩:=o.push mE (fun x=>rfl) (Nat.zero_le _) (bytes:=24) (by omega) (r.name,(r.args.l.length:Int))
   rw [F.cy.aN]
   simp only [e0,e3,e4,aV,Nat.reduceAdd,Nat.reduceEqDiff,reduceIte,aY hi,aP rules hi,ld0,ld 1 (by omega),aM,Jh,Ji,p1]
   refine aB 0 r.body.l.length (Nat.zero_le _) (fun j e h2=>∃ a,Own lf 2 0 h2 a (cC (rules.l.take i)++(r.name,(r.args.l.length:Int)) :: dY (r.body.l.take j))∧e 0=an aM 3 rules∧e 3=a∧e 4 = .int .i64 (i:Int)∧e 5 = .int .i64 (j:Int))
    ⟨a1,by simpa [dY] using p2,e0,rfl,e4,rfl⟩ ?_ ?_
   ·rintro j e h2 _ hj ⟨a,o,e0,e3,e4,e5⟩ K2 hn2 hx2 hr2 hp2
    have hc:r.body.l[j]?=some r.body.l[j]:=List.getElem?_eq_getElem hj
    generalize r.body.l[j]=c at hc
    obtain ⟨H2,hs2,k1,ko,kn⟩:=cO (h:=h2) (zs:=[.int .i64 0,.bool false,.str [],.nils]) (cs:=b6 c) (n:=4) rfl rfl (gN c)
    have x2:bT h2 H2:=⟨by omega,fun b hb=>ko b (by omega)⟩
    have hst:=Ac hc
    rw [F.cy.cP]
    simp only [e0,e3,e4,e5,aV,Nat.reduceAdd,Nat.reduceEqDiff,reduceIte,aP rules hi,ld 2 (by omega),aM,aY hj,aP r.body hj,dQ gL hc,hs2]
    simp only [aV,Nat.reduceAdd,Nat.reduceEqDiff,reduceIte,au k1,b6,cQ]
    by_cases k0:c.kind=0
    ·rw [if_pos k0] at hst
     have hcl:(dY (r.body.l.take j)).length≤20:=by
      have h1:=ni (r.body.l.take j)
      have h2:=List.length_take_le' j r.body.l
      omega
     obtain ⟨a2,h3,s1,s2,s3,s4,s5,s6⟩:=(o.ext x2).push mE (fun x=>rfl) (Nat.zero_le _) (bytes:=24) (by rw [List.length_append,List.length_cons];omega) (c.name,(c.args.l.length:Int))
     simp only [decide_eq_true k0,aI,aV,Nat.reduceAdd,Nat.reduceEqDiff,reduceIte,au k1,b6,Jh,Ji,s1,aE hj hbb]
     refine hn2 _ _ ⟨a2,?_,e0,rfl,e4,rfl⟩
     rw [hst];simpa using s2
    ·rw [if_neg k0,List.append_nil] at hst
     simp only [decide_eq_false k0,aG,aE hj hbb,bindO_some]
     exact hn2 _ _ ⟨a,by rw [hst];exact o.ext x2,e0,e3,e4,rfl⟩
   ·rintro e h2 ⟨a,o,e0,e3,e4,e5⟩ K2 hx2
    rw [F.cy.cP]
    simp only [e0,e4,e5,aV,Nat.reduceAdd,Nat.reduceEqDiff,reduceIte,aP rules hi,ld 2 (by omega),aM,aR]
    rw [hx2,F.cy.b8]
    simp only [e4,aV,Nat.reduceAdd,Nat.reduceEqDiff,reduceIte,aE hi hbig]
    refine hn _ _ ⟨a,?_,e0,e3,rfl⟩
    rw [List.take_of_length_le (Nat.le_refl _)] at o
    have:cC (rules.l.take (i+1))=cC (rules.l.take i)++(r.name,(r.args.l.length:Int)) :: dY r.body.l:=by
     unfold cC;rw [List.take_add_one,hv];simp [tg]
    rw [this];exact o
  ·rintro e h' ⟨a,o,e0,e3,e4⟩ K' hx
   rw [F.cy.aN]
   simp only [e0,e4,aV,Nat.reduceAdd,Nat.reduceEqDiff,reduceIte,aR]
   rw [hx,F.cy.aD]
   rw [List.take_of_length_le (Nat.le_refl _)] at o
   simp only [bu,Nat.reduceEqDiff,reduceIte,e3]
   obtain ⟨x,hx1,hx2⟩:=o.Bb (fun v y hy=>by
    simp only [lf,List.mem_cons,List.not_mem_nil,or_false] at hy
    rcases hy with rfl|rfl<;>exact .scalar _ rfl)
   exact cw.2 ⟨a,x,rfl,hx1,hx2⟩
 refine main.frozen (by simp [AV.pureL,bE ef]) fun o h' ho=>?_
 obtain ⟨v,x,rfl,hx,hf⟩:=cw.1 ho
 exact ⟨v,_,rfl,hf,hK x hx⟩
end
end Go.AM
namespace Go.AM
open Go Go.Proofs
noncomputable section
theorem wP{f:St→(AX→St→Bool)→Bool}{K:AX→St→Bool}{n:Nat}{defs:List lG}{e0:Env}{h0:ag}(I:Nat→Env→ag→Prop)(m:Nat)(hI:I m e0 h0)
  (step:∀ m e h,I m e h→∀ K':AX→St→Bool,(∀ m' e' h',m'<m→I m' e' h'→K' .normal ⟨e',n,defs,h'⟩=true)→(∀ id s,K' (.exit id) s=K (.exit id) s)→(∀ s,K' .ret s=K .ret s)→f ⟨e,n,defs,h⟩ K'=true):aT f ⟨e0,n,defs,h0⟩ K=true:=
 iR I m hI fun m e h hi=>step m e h hi _ (fun m' e' h' hlt hi'=>nY (I:=I) m' hlt hi') (fun _ _=>rfl) (fun _=>rfl)
theorem tj:∀ (l:List bI) (s:bI),(eE l s).length≤l.length+1
 |[],s=>Nat.le_refl _
 |x :: l,s=>by
  have:=tj l s
  rw [eE]
  split
  ·rw [List.length_cons,List.length_cons];omega
  ·split
   ·omega
   ·simp
def ej(rs:List aK):List bI:=rs.foldl (fun o r=>eE o r.name) []
theorem HL{rs:List aK}{i:Nat}{r:aK}(hr:rs[i]?=some r):ej (rs.take (i+1))=eE (ej (rs.take i)) r.name:=by
 unfold ej;rw [List.take_add_one,hr];simp
theorem oU:∀ (rs:List aK) (o:List bI),(rs.foldl (fun o r=>eE o r.name) o).length≤o.length+rs.length
 |[],o=>Nat.le_refl _
 |r :: rs,o=>by
  have h1:=oU rs (eE o r.name)
  have h2:=tj o r.name
  rw [List.foldl_cons,List.length_cons];omega
theorem nG(rs:List aK):(ej rs).length≤rs.length:=by
 have:=oU rs [];simpa [ej] using this
theorem mI:∀ (rs:List aK) (o:List bI),oT o→oT (rs.foldl (fun o r=>eE o r.name) o)
 |[],o,h=>h
 |r :: rs,o,h=>mI rs _ (r7 h r.name)
theorem mX(rs:List aK):oT (ej rs):=mI rs [] List.Pairwise.nil
theorem oV{s:bI}:∀ (rs:List aK) (o:List bI),s ∈ rs.foldl (fun o r=>eE o r.name) o↔s ∈ o∨s ∈ bA rs
 |[],o=>by simp [bA]
 |r :: rs,o=>by
  rw [List.foldl_cons,oV rs,oF]
  simp [bA,or_assoc]
theorem ez{s:bI}(rs:List aK):s ∈ ej rs↔s ∈ bA rs:=by
 have:=oV (s:=s) rs [];simpa [ej] using this
theorem wQ{l:List bI}(h:oT l):l.Nodup:=by
 unfold oT at h;unfold List.Nodup
 exact h.imp fun {a b} hab e=>by subst e;rw [lU] at hab;cases hab
theorem cS{rules:Sl aK}(h60:rules.l.length≤60){h:ag}{K:Out→ag→Bool}(hK:∀ x:Sl bI,x.l=ej rules.l→K (.ret (an encS 1 x)) h=true) :
  Sem Tryz.prog 34 [an aM 3 rules] h K:=by
 have hbig:rules.l.length≤cz:=by unfold cz;omega
 have main:Sem Tryz.prog 34 [an aM 3 rules] ag.empty (fun o h'=>yes (∃ v,∃ x:Sl bI,o = .ret v∧x.l=ej rules.l∧Fz true h' v (an encS 1 x))):=by
  refine F.ug ?_
  refine aB 0 rules.l.length (Nat.zero_le _) (fun i e h'=>∃ a,Own encS 1 0 h' a (ej (rules.l.take i))∧e 0=an aM 3 rules∧e 3=a∧e 4 = .int .i64 (i:Int)) ⟨.nils,.nil,rfl,rfl,rfl⟩ ?_ ?_
  ·rintro i e h' _ hi ⟨a,o,e0,e3,e4⟩ K' hn hx hr hp
   have hv:rules.l[i]?=some rules.l[i]:=List.getElem?_eq_getElem hi
   generalize rules.l[i]=r at hv
   have ld:∀ h,ai none (.iptr (rules.l.flatMap aM) (i*3)) h=some (.str r.name):=fun h=>eZ fe hv (by omega:0<3)
   have hst:=HL hv
   rw [F.cS.aN]
   simp only [e0,e3,e4,aV,Nat.reduceAdd,Nat.reduceEqDiff,reduceIte,aY hi,aP rules hi,ld]
   refine ak (dI o (Nat.zero_le _) (by have h1:=nG (rules.l.take i);have h2:=List.length_take_le i rules.l;omega) fun a1 h1 x1 o1=>?_)
   simp only [aV,Nat.reduceAdd,Nat.reduceEqDiff,reduceIte,aE hi hbig]
   exact hn _ _ ⟨a1,by rw [hst];exact o1,e0,rfl,rfl⟩
  ·rintro e h' ⟨a,o,e0,e3,e4⟩ K' hx
   rw [F.cS.aN]
   simp only [e0,e4,aV,Nat.reduceAdd,Nat.reduceEqDiff,reduceIte,aR]
   rw [hx,F.cS.aD]
   rw [List.take_of_length_le (Nat.le_refl _)] at o
   simp only [bu,Nat.reduceEqDiff,reduceIte,e3]
   obtain ⟨x,hx1,hx2⟩:=o.Bb (fun v y hy=>by
    simp only [encS,List.mem_cons,List.not_mem_nil,or_false] at hy
    subst hy;exact .scalar _ rfl)
   exact cw.2 ⟨a,x,rfl,hx1,hx2⟩
 refine main.frozen (by simp [AV.pureL,bE ef]) fun o h' ho=>?_
 obtain ⟨v,x,rfl,hx,hf⟩:=cw.1 ho
 exact ⟨v,_,rfl,hf,hK x hx⟩
theorem dm{x:Sl bI}{s:bI}(hx:x.l.length≤cz){h:ag}{K:Out→ag→Bool}(hyes:∀ i:Nat,x.l[i]?=some s→K (.ret (.int .i64 (i:Int))) h=true)(hno:s ∉ x.l→K (.ret (.int .i64 (-1))) h=true):Sem Tryz.prog 58 [an encS 1 x,.str s] h K:=by
 refine F.xh ?_
 refine aB 0 x.l.length (Nat.zero_le _) (fun i e h'=>h'=h∧e 0=an encS 1 x∧e 1 = .str s∧e 5 = .int .i64 (i:Int)∧s ∉ x.l.take i) ⟨rfl,rfl,rfl,rfl,by simp⟩ ?_ ?_
 ·rintro i e h' _ hi ⟨rfl,e0,e1,e5,ht⟩ K' hn hx' hr hp
  have hv:x.l[i]?=some x.l[i]:=List.getElem?_eq_getElem hi
  generalize x.l[i]=t at hv
  rw [F.dm.aN]
  simp only [e0,e1,e5,aV,Nat.reduceAdd,Nat.reduceEqDiff,reduceIte,aY hi,aP x hi,fW hv,mW]
  by_cases hq:t=s
  ·subst hq
   simp only [decide_true,aI]
   rw [hr,F.dm.bq]
   exact hyes i hv
  ·simp only [decide_eq_false hq,aG,aE hi hx,bindO_some]
   refine hn _ _ ⟨rfl,e0,e1,rfl,?_⟩
   rw [List.take_add_one,hv]
   simp only [Option.toList_some,List.mem_append,List.mem_singleton]
   exact fun h=>h.elim ht fun h=>hq h.symm
 ·rintro e h' ⟨rfl,e0,e1,e5,ht⟩ K' hx'
  rw [F.dm.aN]
  simp only [e0,e5,aV,Nat.reduceAdd,Nat.reduceEqDiff,reduceIte,aR]
  rw [hx',F.dm.aD]
  rw [List.take_of_length_le (Nat.le_refl _)] at ht
  exact hno ht
end
end Go.AM