/- Values, objects, and code by what it leads to: a library of this claim's own. No condition. -/
import Derived.Test.YtneiihheeghdcaaDoorGdbmenh1
import Derived.Laws.StructEq
set_option linter.all false

namespace Go.Ga
open Go
section
variable {Ls:List (List Nat)} {E:Env} {N:Nat} {V:List Nat} {st:zb} {a:Act} {P:Program} {o:Oper} {d:Nat}
theorem Qr {t:TypeId}{dsc:TypeDesc}{inf:TypeInfo}(hu:P.underlying t=some dsc)(hi:P.info? t=some inf){vs:Array Value}{off:Nat}(w:World)
    (hv:z8 dsc=false→off<vs.size):(part t vs off).run P w= .ok (if z8 dsc then .agg (vs.extract off (off+inf.size)) else vs.getD off undef) w:=by
  cases dsc<;>simp[z8] at hv⊢<;>simp[part,isAgg,run_underlying hu,sizeOf,typeInfo,hi,hv]
theorem Wu (R:zi E N V st a.tmps)(F:zo N V st d){cs:List za}{vs:Array Value}(hs:vs.size=cs.length){off n:Nat}{ag:Bool}{A:za}
    (hv:∀(k:Nat) A v,cs[k]?=some A→vs[k]?=some v→A.copyable=true→VRel E none A v)
    (h:(match ag with|true=>if off+n≤cs.length then YY ((cs.drop off).take n) else none|false=>match cs[off]? with|some A=>bif A.copyable then some A else none|none=>none)=some A):
    (ag=false→off<vs.size)∧zi E N V (st.putT d A) (a.tmps.setIfInBounds d (if ag then .agg (vs.extract off (off+n)) else vs.getD off undef)):=by
  cases ag with
  | true=>
    simp only[] at h
    split at h
    · rename_i hle
      obtain⟨hcp,rfl⟩:=YX h
      refine⟨fun h=>(by cases h),?_⟩
      simp only[if_true]
      refine JW (po:=none) R F (.agg _ _ _ (by simp;omega) fun j A v hA hv'=>?_) hcp
      obtain⟨h2,hj⟩:=QW j A hA
      refine hv _ A v h2 ?_ (zC hcp hA)
      rw[Array.getElem?_extract] at hv'
      split at hv'
      · exact hv'
      · cases hv'
    · cases h
  | false=>
    simp only[] at h
    cases hk:cs[off]? with
    |none=>rw[hk] at h;cases h
    | some B=>
      rw[hk] at h
      rcases zE h with⟨hcp,h⟩|⟨_,h⟩
      · cases h
        have hlt:off<vs.size:=by rw[hs];exact(List.getElem?_eq_some_iff.1 hk).1
        refine⟨fun _=>hlt,?_⟩
        simp only[Bool.false_eq_true,if_false]
        have e:vs.getD off undef=vs[off]:=by simp[Array.getD,hlt]
        rw[e]
        exact JW R F (hv off _ vs[off] hk (Array.getElem?_eq_getElem hlt) hcp) hcp
      · cases h
theorem KM (R :zi E N V st a.tmps)(F:zo N V st d){s:TypeId}{i:Nat}{fs:Array Field}{fl:Field}{dsc:TypeDesc}{inf:TypeInfo}{x:Operand}{ox:zm}(ho:o.op= .field s x i)
    (hu:P.underlying s=some (.struct fs)) (hf:fs[i]?=some fl) (hd:P.underlying fl.type=some dsc) (hi:P.info? fl.type=some inf) (hx:zd x=some ox)
    {A:za} (h:jd st (.fld d ox fl.offset inf.size (z8 dsc))=some A):ZW Ls E N V st a P o d A:=by
  simp only[jd] at h
  split at h
  · rename_i cs hb
    obtain⟨v,po,h1,h2,_⟩:=zj R hx hb rfl
    cases h2 with
    | agg _ _ vs hs hh=>
      obtain⟨hlt,hR⟩:=Wu R F hs (fun k A v h1 h2 hc=>(hh k A v h1 h2).copy _ hc) h
      refine .pure (fun w=>?_) hR
      simp[execOp,ho,h1,Instr.field,run_underlying hu,hf,asAgg,Qr hd hi w hlt]
  · rename_i p hb
    obtain⟨B,v,h1,h2,h3,h4,h5⟩:=qX R hx hb
    rw[h1] at h
    cases B with
    | agg cs=>
      simp only[] at h
      cases h5 with
      | agg _ _ vs hs hh=>
        unfold cellsOf at h
        cases hdd:z8 dsc with
        | true=>
          rw[hdd] at h
          obtain⟨hlt,hR⟩:=Wu (ag:=true) R F hs (fun k A v h1 h2 hc=>(hh k A v h1 h2).copy _ hc) h
          refine .pure (v:= .agg (vs.extract fl.offset (fl.offset+inf.size))) (fun w=>?_) hR
          have:=Qr hd hi (vs:=vs) (off:=fl.offset) w (by rw[hdd];exact hlt)
          rw[hdd] at this
          simp[execOp,ho,h4,Instr.field,run_underlying hu,hf,asAgg,this]
        | false=>
          rw[hdd] at h
          simp only[] at h
          cases hk:cs[fl.offset]? with
          |none=>rw[hk] at h;cases h
          | some C=>
            rw[hk] at h
            have hlt:fl.offset<vs.size:=by rw[hs];exact(List.getElem?_eq_some_iff.1 hk).1
            have hvk:vs[fl.offset]?=some vs[fl.offset]:=Array.getElem?_eq_getElem hlt
            have hp:=zq h1
            refine .pure (v:=vs[fl.offset]) (fun w=>?_) (Qh (p:=p) (k:=fl.offset) R F h (by simpa using hh _ C _ hk hvk) fun _=>⟨?_,?_⟩)
            · have:=Qr hd hi (vs:=vs) (off:=fl.offset) w (fun _=>hlt)
              rw[hdd] at this
              simp[hlt] at this
              simp[execOp,ho,h4,Instr.field,run_underlying hu,hf,asAgg,this]
            · rw[at_append hp,h1];simp[za.sub,za.kids,hk]
            · rw[pval_append hp,h3];simp[zF,hlt]
    |_=>cases h
  · cases h
theorem jI {t e:TypeId}{inf:TypeInfo}(hu:P.underlying t=some (.slice e))(hi:P.info? e=some inf){b k len cap:Nat}{kd:IntKind}{n:Int}(h0:0≤n)(h1:n.toNat<len)(w:World):
    (Instr.indexAt t (.slice (some ⟨b,k,none⟩) len cap) (.int kd n)).run P w= .ok (.pointer (some ⟨b,k+n.toNat*inf.size,none⟩)) w:=by
  have hlt:n<(len:Int):=by omega
  simp[Instr.indexAt,asIntOf,run_underlying hu,sizeOf,typeInfo,hi,h0,hlt,Addr.add_lit]
theorem uF {l len sz n:Nat}(hl:l=len*sz)(h:n*sz+sz≤l)(hsz:0<sz):n<len:=by
 subst hl
 have:(n+1)*sz≤len*sz:=by rw[Nat.add_mul,Nat.one_mul];exact h
 have:=Nat.le_of_mul_le_mul_right this hsz
 omega
theorem Vn (R :zi E N V st a.tmps)(F:zo N V st d){t e:TypeId}{inf:TypeInfo}{x i:Operand}{ox oi:zm}(ho:o.op= .indexAddr t x i)
    (hu:P.underlying t=some (.slice e)) (hi:P.info? e=some inf) (hsz:0<inf.size) (hx:zd x=some ox) (hoi:zd i=some oi)
    {A:za} (h:jd st (.idxA d ox oi inf.size)=some A):ZW Ls E N V st a P o d A:=by
  simp only[jd] at h
  split at h
  · rename_i n hn
    obtain⟨kd,hk⟩:=Ji R hoi hn
    split at h
    · rename_i s cs hb
      split at h
      · rename_i hc
        obtain⟨rfl,h0,hle⟩:=hc
        cases h
        obtain⟨v,po,h1,h2,_⟩:=zj R hx (zO hb rfl) rfl
        cases h2 with
        | imm _ _ _ b k len cap f hO hb' hl hcap hf hh=>
          have hlt:=uF hl.2 hle hsz
          refine .pure (v:= .pointer (some ⟨b,k+n.toNat*inf.size,none⟩)) (fun w=>by simp[execOp,ho,h1,hk,jI hu hi h0 hlt w]) (JW (po:=none) R F ?_ rfl)
          exact VRel.iaDrop (.ia _ _ b k f hO hb' hf hh) _
        |immNil=>simp at hle;omega
      · cases h
    · rename_i id off len s hb
      split at h
      · rename_i hc
        obtain⟨rfl,h0,hlt⟩:=hc
        cases h
        obtain⟨v,po,h1,h2,_⟩:=zj R hx (zO hb rfl) rfl
        cases h2 with
        | sl _ _ _ _ cap _ hid hcap hm hκ=>
          refine .pure (v:= .pointer (some ⟨E.ρ id,E.β id+off+n.toNat*inf.size,none⟩)) (fun w=>by simp[execOp,ho,h1,hk,jI hu hi h0 hlt w]) (JW (po:=none) R F ?_ rfl)
          have:=VRel.ptr (E:=E) none id (off+n.toNat*inf.size) hid
          rwa [←Nat.add_assoc] at this
      · cases h
    · rename_i p hb
      split at h
      · rename_i s cs hown
        split at h
        · rename_i hc
          obtain⟨rfl,h0,hle⟩:=hc
          cases h
          obtain⟨B,v,h1,h2,h3,h4,h5⟩:=Q2 R hx hb
          unfold zb.owned at hown
          rw[h1] at hown
          cases B with
          | own hd cs'=>
            simp at hown
            obtain⟨rfl,rfl⟩:=hown
            cases h5 with
            | own _ _ _ b k len cap arr T f hO hb' hl hcap hm ha hf hh=>
              have hlt:=uF hl.2 hle hsz
              exact .pure (fun w=>by simp[execOp,ho,h4,hk,jI hu hi h0 hlt w]) (R.putT_addr F.lt F.v F.t h1 h3 rfl)
            |ownNil=>simp at hle;omega
          |_=>cases hown
        · cases h
      · cases h
    · cases h
  · cases h
theorem UF (R:zi E N V st a.tmps){x:Operand}{ox:zm}(hx:zd x=some ox){n:Nat}(h:st.lenOf (st.ev ox)=some n):
    ∃b c,a.eval x= .slice b n c:=by
  unfold zb.lenOf at h
  split at h
  · rename_i sz cs hb
    cases h
    obtain⟨v,po,h1,h2,_⟩:=zj R hx hb rfl
    cases h2 with
    |imm _ _ _ b k len cap f hO hb' hl hcap hf hh=>exact⟨_,cap,by rw[h1,hl.2,Nat.mul_div_cancel _ hl.1]⟩
    |immNil=>exact⟨_,0,by rw[h1,List.length_nil,Nat.zero_div]⟩
  · rename_i id off len s hb
    cases h
    obtain⟨v,po,h1,h2,_⟩:=zj R hx hb rfl
    cases h2 with
    |sl=>exact⟨_,_,h1⟩
  · rename_i hb
    cases h
    exact⟨none,0,Za R hx hb⟩
  · rename_i p hb
    split at h
    · rename_i sz cs hown
      cases h
      obtain⟨B,v,h1,h2,h3,h4,h5⟩:=qX R hx hb
      unfold zb.owned at hown
      rw[h1] at hown
      cases B with
      | own hd cs'=>
        simp at hown
        obtain⟨rfl,rfl⟩:=hown
        cases h5 with
        |own _ _ _ b k len cap arr T f hO hb' hl hcap hm ha hf hh=>exact⟨_,cap,by rw[h4,hl.2,Nat.mul_div_cancel _ hl.1]⟩
        |ownNil=>exact⟨none,0,by rw[h4];simp⟩
      |_=>cases hown
    · cases h
  · rename_i sz cs hb
    cases h
    obtain⟨v,po,h1,h2,_⟩:=zj R hx hb rfl
    cases h2 with
    |own _ _ _ b k len cap arr T f hO hb' hl hcap hm ha hf hh=>exact⟨_,cap,by rw[h1,hl.2,Nat.mul_div_cancel _ hl.1]⟩
    |ownNil=>exact⟨none,0,by rw[h1];simp⟩
  · cases h
theorem KL (R:zi E N V st a.tmps)(F:zo N V st d){t e:TypeId}{x:Operand}{ox:zm}(ho:o.op= .call {callee:= .builtin .len,args:= #[x],argTypes:= #[t]})
    (hu:P.underlying t=some (.slice e)) (hx:zd x=some ox) {A:za} (h:jd st (.len d ox)=some A):ZW Ls E N V st a P o d A:=by
  simp only[jd] at h
  obtain⟨n,hn,rfl⟩:=Option.map_eq_some_iff.1 h
  obtain⟨b,c,hv⟩:=UF R hx hn
  exact .pure (fun w=>by simp[execOp,ho,resolve,invoke,builtin,Builtin.len_,hv,run_underlying hu,goInt]) (z2 R F _)
theorem Vj (R:zi E N V st a.tmps)(F:zo N V st d){t:TypeId}{x:Operand}{ox:zm}(ho:o.op= .call {callee:= .builtin .len,args:= #[x],argTypes:= #[t]})
    (hu:P.underlying t=some .string) (hx:zd x=some ox) {A:za} (h:jd st (.lenS d ox)=some A):ZW Ls E N V st a P o d A:=by
  simp only[jd] at h
  split at h
  · rename_i s hb
    cases h
    exact .pure (fun w=>by simp[execOp,ho,resolve,invoke,builtin,Builtin.len_,Za R hx hb,run_underlying hu,goInt]) (z2 R F _)
  · cases h
theorem Kg (R:zi E N V st a.tmps)(F:zo N V st d){mx:Bool}{ts:Array TypeId}{x y:Operand}{ox oy:zm}(ho:o.op= .call {callee:= .builtin (if mx then .max else .min),args:= #[x,y],argTypes:=ts})
    (hx:zd x=some ox) (hy:zd y=some oy) {A:za} (h:jd st (.mm d mx ox oy)=some A):ZW Ls E N V st a P o d A:=by
  simp only[jd] at h
  split at h
  · rename_i k m k' n hm hn
    split at h
    · rename_i hk
      subst hk
      cases h
      have h1:=Za R hx hm
      have h2:=Za R hy hn
      cases mx with
      | true=>
        refine .pure (fun w=>?_) (z2 R F _)
        have e:(if m<n then n else m)=max m n:=by omega
        simp[execOp,ho,resolve,invoke,builtin,Builtin.max_,Builtin.max2,h1,h2,e]
      | false=>
        refine .pure (fun w=>?_) (z2 R F _)
        have e:(if n<m then n else m)=min m n:=by omega
        simp[execOp,ho,resolve,invoke,builtin,Builtin.min_,Builtin.min2,h1,h2,e]
    · cases h
  · cases h
theorem Vl (R:zi E N V st a.tmps)(F:zo N V st d){t:TypeId}{x i:Operand}{ox oi:zm}(ho:o.op= .index t x i)
    (hu:P.underlying t=some .string) (hx:zd x=some ox) (hoi:zd i=some oi) {A:za} (h:jd st (.idxS d ox oi)=some A):ZW Ls E N V st a P o d A:=by
  simp only[jd] at h
  split at h
  · rename_i n hn
    obtain⟨kd,hk⟩:=Ji R hoi hn
    split at h
    · rename_i s hb
      split at h
      · rename_i hc
        cases h
        obtain⟨h0,hlt⟩:=hc
        have e:s[n.toNat]?=some (s.data.getD n.toNat 0):=by
          simp[hlt,Array.getD]
          rfl
        exact .pure (fun w=>by simp[execOp,ho,Instr.index,asIntOf,Za R hx hb,hk,run_underlying hu,h0,e]) (z2 R F _)
      · cases h
    · cases h
  · cases h
theorem Vk (R:zi E N V st a.tmps)(F:zo N V st d){t e:TypeId}{n:Nat}{dsc:TypeDesc}{inf:TypeInfo}{x i:Operand}{ox oi:zm}(ho:o.op= .index t x i)
    (hu:P.underlying t=some (.array n e)) (hd:P.underlying e=some dsc) (hi:P.info? e=some inf) (hx:zd x=some ox) (hoi:zd i=some oi)
    {A:za} (h:jd st (.idxV d ox oi n inf.size (z8 dsc))=some A):ZW Ls E N V st a P o d A:=by
  simp only[jd] at h
  split at h
  · rename_i j hj
    obtain⟨kd,hk⟩:=Ji R hoi hj
    split at h
    · rename_i hc
      obtain⟨h0,hlt⟩:=hc
      split at h
      · rename_i cs hb
        obtain⟨v,po,h1,h2,_⟩:=zj R hx hb rfl
        cases h2 with
        | agg _ _ vs hs hh=>
          obtain⟨hlt',hR⟩:=Wu (n:=inf.size) R F hs (fun k A v h1 h2 hc=>(hh k A v h1 h2).copy _ hc) h
          refine .pure (fun w=>?_) hR
          have hlt2:j<(n:Int):=by omega
          simp[execOp,ho,h1,hk,Instr.index,asIntOf,run_underlying hu,h0,hlt2,sizeOf,typeInfo,hi,Qr hd hi w hlt']
      · cases h
    · cases h
  · cases h
theorem KN (R : zi E N V st a.tmps)(F:zo N V st d){i:Nat}{x:Operand}{ox:zm}(ho:o.op= .extract x i)(hx:zd x=some ox)
    {A:za} (h:jd st (.ext d ox i)=some A):ZW Ls E N V st a P o d A:=by
  simp only[jd] at h
  split at h
  · rename_i cs hb
    obtain⟨v,po,h1,h2,h3⟩:=zj R hx hb rfl
    cases h2 with
    | tup _ _ vs hs hh=>
      cases hk:cs[i]? with
      |none=>rw[hk] at h;cases h
      | some C=>
        rw[hk] at h
        have hlt:i<vs.size:=by rw[hs];exact(List.getElem?_eq_some_iff.1 hk).1
        have hvk:vs[i]?=some vs[i]:=Array.getElem?_eq_getElem hlt
        have hrun:∀w,(execOp a.eval o).run P w= .ok (.value vs[i]) w:=fun w=>by simp[execOp,ho,h1,Instr.extract,hlt]
        have hC:=hh i C _ hk hvk
        rcases zE h with⟨hcp,h⟩|⟨_,h⟩
        · cases h;exact .pure hrun (JW R F hC hcp)
        · cases ox with
          | t j =>
            obtain⟨h4,rfl⟩:=h3 j rfl
            have hat:st.at [0,j,i]=some C:=by
              rw[zB]
              have:st.get j= .tup cs:=hb
              simp[za.sub,za.kids,this,hk]
            have hpv:zr E a.tmps [0,j,i]=some vs[i]:=by simp[zr,h4,zF,hlt]
            cases C with
            | own hd cs'=>
              cases hd with
              | none=>
                cases h
                generalize vs[i]=u at*
                cases hC with
                |box _ _ b arr T f hO hb ha hf hh=>exact .pure hrun (R.putT_addr (k:=0) F.lt F.v F.t hat hpv rfl)
              |some sz=>cases h;exact .pure hrun (R.putT_at F.lt F.v F.t hat rfl hpv)
            |agg cs'=>cases h;exact .pure hrun (R.putT_at F.lt F.v F.t hat rfl hpv)
            |_=>cases h
          |c v=>cases hb
          |f g=>cases hb
  · rename_i p hb
    obtain⟨B,v,h1,h2,h3,h4,h5⟩:=qX R hx hb
    rw[h1] at h
    cases B with
    | tup cs=>
      simp only[] at h
      cases h5 with
      | tup _ _ vs hs hh=>
        cases hk:cs[i]? with
        |none=>rw[hk] at h;cases h
        | some C=>
          rw[hk] at h
          have hlt:i<vs.size:=by rw[hs];exact(List.getElem?_eq_some_iff.1 hk).1
          have hvk:vs[i]?=some vs[i]:=Array.getElem?_eq_getElem hlt
          have hrun:∀w,(execOp a.eval o).run P w= .ok (.value vs[i]) w:=fun w=>by simp[execOp,ho,h4,Instr.extract,hlt]
          have hC:=hh i C _ hk hvk
          have hp:=zq h1
          have hat:st.at (p++[i])=some C:=by rw[at_append hp,h1];simp[za.sub,za.kids,hk]
          have hpv:zr E a.tmps (p++[i])=some vs[i]:=by rw[pval_append hp,h3];simp[zF,hlt]
          by_cases hagg:∃cs',C= .agg cs'
          · obtain⟨cs',rfl⟩:=hagg
            rcases zE h with⟨hcp,h⟩|⟨_,h⟩
            · cases h;exact .pure hrun (JW R F hC hcp)
            · cases h;exact .pure hrun (R.putT_at F.lt F.v F.t hat rfl hpv)
          · have h':Q4 p i C=some A:=by
              cases C with
              |agg cs'=>exact absurd ⟨cs',rfl⟩ hagg
              |_=>exact h
            exact .pure hrun (Qh (p:=p) (k:=i) R F h' (by simpa using hC) fun _=>⟨hat,hpv⟩)
    |_=>cases h
  · cases h
theorem Vr (R:zi E N V st a.tmps)(F:zo N V st d){op:BinOp}{xt yt:TypeId}{x y:Operand}{ox oy:zm}(ho:o.op= .binOp op xt x y yt)(hu:P.underlying xt=some .bool)(hx:zd x=some ox)(hy:zd y=some oy)
    {A:za} (h:jd st (.bin d op 1 ox oy)=some A):ZW Ls E N V st a P o d A:=by
  simp only[jd] at h
  split at h
  · rename_i b c hm hn
    have h1:=Za R hx hm
    have h2:=Za R hy hn
    obtain⟨v,hv,rfl⟩:=Option.map_eq_some_iff.1 h
    refine .pure (fun w=>?_) (z2 R F v)
    have hg:eqGuard op xt x y (.bool b) (.bool c)=pure ():=by cases op<;>rfl
    have he:∀n:Nat,(Op.equalIn (n+1) xt (.bool b) (.bool c)).run P w= .ok (b==c) w:=fun n=>by simp[Op.equalIn,run_underlying hu]
    cases op<;>simp[WH] at hv<;>subst hv<;>simp[execOp,ho,h1,h2,hg,binOp,Op.equal,Op.maxDepth,he]<;>cases b<;>cases c<;>rfl
  · cases h
def QP (dsc:TypeDesc)(v:Value)(b:Bool):Prop:=
 match dsc with
 | .pointer _=>∃p,v= .pointer p∧b=p.isNone
 | .slice _=>∃p l c,v= .slice p l c∧b=p.isNone
 | .func _ _ _=>(b=true∧v= .nilFunc)∨(b=false∧∃f x y,v= .func f x y)
 |_=>False
def JM :TypeDesc→Nat
 | .pointer _=>2
 | .slice _=>3
 | .func _ _ _=>4
 |_=>5
theorem Jr (R:zi E N V st a.tmps){x:Operand}{ox:zm}(hx:zd x=some ox){dsc:TypeDesc}{b:Bool}(h:st.isNil (JM dsc) (st.ev ox)=some b):QP dsc (a.eval x) b:=by
 cases dsc<;>simp only[JM,zb.isNil] at h<;>try (cases h;done)
 · split at h<;>cases h
   · rename_i hb;exact⟨_,Za R hx hb,rfl⟩
   · rename_i id off hb
     obtain⟨v,po,h1,h2,_⟩:=zj R hx hb rfl
     cases h2;exact⟨_,h1,rfl⟩
   · rename_i cs hb
     obtain⟨v,po,h1,h2,_⟩:=zj R hx hb rfl
     cases h2;exact⟨_,h1,rfl⟩
   · rename_i p k hb
     obtain⟨hd,cs,v,b,o',h1,h2,h3,h4,_⟩:=yJ R hx hb
     exact⟨_,h4,rfl⟩
   · rename_i cs hb
     obtain⟨v,po,h1,h2,_⟩:=zj R hx hb rfl
     cases h2;exact⟨_,h1,rfl⟩
 · split at h
   · cases h;rename_i hb;exact⟨_,_,_,Za R hx hb,rfl⟩
   · cases h
     rename_i hb
     obtain⟨v,po,h1,h2,_⟩:=zj R hx hb rfl
     cases h2;exact⟨_,_,_,h1,rfl⟩
   · cases h
     rename_i hb
     obtain⟨v,po,h1,h2,_⟩:=zj R hx hb rfl
     cases h2;exact⟨_,_,_,h1,rfl⟩
   · cases h
     rename_i hb
     obtain⟨v,po,h1,h2,_⟩:=zj R hx hb rfl
     cases h2;exact⟨_,_,_,h1,rfl⟩
   · rename_i p hb
     split at h
     · rename_i sz c cs hown
       cases h
       obtain⟨B,v,h1,h2,h3,h4,h5⟩:=qX R hx hb
       unfold zb.owned at hown
       rw[h1] at hown
       cases B with
       | own hd cs'=>
         simp at hown
         obtain⟨rfl,rfl⟩:=hown
         cases h5 with
         |own=>exact⟨_,_,_,h4,rfl⟩
       |_=>cases hown
     · cases h
   · cases h
 · split at h<;>cases h
   · rename_i hb;exact .inl ⟨rfl,Za R hx hb⟩
   · rename_i hb
     obtain⟨v,po,h1,h2,_⟩:=zj R hx hb rfl
     cases h2;exact .inr ⟨rfl,_,_,_,h1⟩
theorem gN {t:TypeId}{dsc:TypeDesc}(hu:P.underlying t=some dsc){u v:Value}{b c:Bool}(h1:QP dsc u b)(h2:QP dsc v c)(h:b=true∨c=true)(n:Nat)(w:World):
    (Op.equalIn (n+1) t u v).run P w= .ok (b&&c) w:=by
  cases dsc<;>simp only[QP] at h1 h2<;>try (exact h1.elim)
  · obtain⟨p,rfl,rfl⟩:=h1
    obtain⟨q,rfl,rfl⟩:=h2
    cases p<;>cases q<;>simp at h<;>simp[Op.equalIn,run_underlying hu]
  · obtain⟨p,l,c,rfl,rfl⟩:=h1
    obtain⟨q,l',c',rfl,rfl⟩:=h2
    cases p<;>cases q<;>simp at h<;>simp[Op.equalIn,run_underlying hu]
  · rcases h1 with⟨rfl,rfl⟩|⟨rfl,f,x,y,rfl⟩<;>rcases h2 with⟨rfl,rfl⟩|⟨rfl,f',x',y',rfl⟩<;>simp at h<;>simp[Op.equalIn,run_underlying hu]
theorem qx {op:BinOp}{t:TypeId}{x y:Operand}{dsc:TypeDesc}(hu:P.underlying t=some dsc){u v:Value}{b c:Bool}(h1:QP dsc u b)(h2:QP dsc v c)(h:b=true∨c=true){A:za}(hA:ZF op (b&&c)=some A)(w:World):
    ∃r,A= .sc r∧((do eqGuard op t x y u v;binOp op t u v):Sem Value).run P w= .ok r w:=by
  have e:=gN (P:=P) hu h1 h2 h 9999 w
  cases dsc<;>simp only[QP] at h1 h2<;>try (exact h1.elim)
  · obtain⟨p,rfl,rfl⟩:=h1
    obtain⟨q,rfl,rfl⟩:=h2
    have hg:eqGuard op t x y (.pointer p) (.pointer q)=pure ():=by cases op<;>rfl
    cases op<;>simp[ZF] at hA<;>subst hA<;>refine⟨_,rfl,?_⟩<;>simp[hg,binOp,Op.equal,Op.maxDepth,e]
  · obtain⟨p,l,c,rfl,rfl⟩:=h1
    obtain⟨q,l',c',rfl,rfl⟩:=h2
    have hg:eqGuard op t x y (.slice p l c) (.slice q l' c')=pure ():=by cases op<;>rfl
    cases op<;>simp[ZF] at hA<;>subst hA<;>refine⟨_,rfl,?_⟩<;>simp[hg,binOp,Op.equal,Op.maxDepth,e]
  · have hg:eqGuard op t x y u v=pure ():=by
      rcases h1 with⟨rfl,rfl⟩|⟨rfl,f,x',y',rfl⟩<;>cases op<;>rfl
    have hb:∀o',o'=BinOp.eql∨o'= .neq→binOp o' t u v=(if o'= .eql then(do pure (.bool (←Op.equal t u v))) else(do pure (.bool (!(←Op.equal t u v)))):Sem Value):=by
      rcases h1 with⟨rfl,rfl⟩|⟨rfl,f,x',y',rfl⟩<;>rcases h2 with⟨rfl,rfl⟩|⟨rfl,f',x'',y'',rfl⟩<;>rintro o' (rfl|rfl)<;>simp[binOp]
    cases op<;>simp[ZF] at hA<;>subst hA<;>refine⟨_,rfl,?_⟩
    · simp[hg,hb .eql (.inl rfl),Op.equal,Op.maxDepth,e]
    · simp[hg,hb .neq (.inr rfl),Op.equal,Op.maxDepth,e]
theorem QU (R:zi E N V st a.tmps)(F:zo N V st d){op:BinOp}{xt yt:TypeId}{dsc:TypeDesc}{x y:Operand}{ox oy:zm}(ho:o.op= .binOp op xt x y yt)(hu:P.underlying xt=some dsc)
    (hx:zd x=some ox) (hy:zd y=some oy) {A:za} (h:jd st (.bin d op (JM dsc) ox oy)=some A):ZW Ls E N V st a P o d A:=by
  have key:∃b c,st.isNil (JM dsc) (st.ev ox)=some b∧st.isNil (JM dsc) (st.ev oy)=some c∧(b=true∨c=true)∧ZF op (b&&c)=some A:=by
    have h':(match st.isNil (JM dsc) (st.ev ox),st.isNil (JM dsc) (st.ev oy) with
      |some true,some b=>ZF op b
      |some false,some true=>ZF op false
      |_,_=>none)=some A:=by
      cases dsc<;>exact h
    split at h'
    · rename_i b h1 h2;exact⟨true,b,h1,h2,.inl rfl,h'⟩
    · rename_i h1 h2;exact⟨false,true,h1,h2,.inr rfl,h'⟩
    · cases h'
  obtain⟨b,c,h1,h2,h3,h4⟩:=key
  obtain⟨r,rfl,_⟩:=qx (P:=P) (x:=x) (y:=y) hu (Jr R hx h1) (Jr R hy h2) h3 h4 default
  refine .pure (fun w=>?_) (z2 R F r)
  obtain⟨r',hr,hrun⟩:=qx (P:=P) (x:=x) (y:=y) hu (Jr R hx h1) (Jr R hy h2) h3 h4 w
  cases hr
  simp only[execOp,ho]
  simp only[Sem.run_bind] at hrun⊢
  rw[hrun]
  rfl
def qG (P:Program):Nat→List Field→Bool
 |_,[]=>true
 | i, f :: fs => f.name != "_" && f.offset == i && (match P.underlying f.type with | some (.int _) => true | _ => false) && qG P (i + 1) fs
theorem Qq {P:Program}{t:TypeId}{k:IntKind}{cs:Array Value}{off:Nat}{v:Value}(hu:P.underlying t=some (.int k))(h:cs[off]?=some v)(w:World):(Go.part t cs off).run P w= .ok v w:=by
 simp[Go.part,Go.isAgg,run_underlying hu,h]
theorem qY {P:Program}{d:Nat}{xs ys:Array Value}:∀(fs:List Field) (i:Nat) (as bs:List za) (b:Bool) (w:World),qG P i fs=true→qk as bs=some b→as.length=fs.length→
    (∀k v,as[k]?=some (.sc v)→xs[i+k]?=some v)→(∀k v,bs[k]?=some (.sc v)→ys[i+k]?=some v)→(Op.eqFields (d+1) xs ys fs).run P w= .ok b w
  | [],i,as,bs,b,w,_,he,hl,_,_=>by
    cases as with
    |cons=>cases hl
    | nil=>
      cases bs with
      |cons=>cases he
      |nil=>cases he;rfl
  | f ::fs,i,as,bs,b,w,hf,he,hl,hx,hy=>by
    unfold qk at he
    split at he
    · cases hl
    · rename_i k x as k' y bs
      split at he
      · rename_i hk
        subst hk
        obtain⟨r,hr,rfl⟩:=Option.map_eq_some_iff.1 he
        simp only[qG,Bool.and_eq_true,bne_iff_ne,beq_iff_eq] at hf
        obtain⟨⟨⟨h1,h2⟩,h3⟩,h4⟩:=hf
        subst h2
        split at h3
        · rename_i kk hu
          have e1:=hx 0 _ rfl
          have e2:=hy 0 _ rfl
          simp only[Nat.add_zero] at e1 e2
          have ih:=qY (d:=d) fs (f.offset+1) as bs r w h4 hr (by simpa using hl) (fun k v h=>by have:=hx (k+1) v (by simpa using h);rwa [Nat.add_assoc,Nat.add_comm 1 k]) (fun k v h=>by have:=hy (k+1) v (by simpa using h);rwa [Nat.add_assoc,Nat.add_comm 1 k])
          simp only[Op.eqFields,ne_eq,h1,not_false_eq_true,if_true,Sem.run_bind,Qq hu e1,Qq hu e2,Result.andThen_ok,run_equalIn_int w d f.type k kk x y hu,Sem.run_ite]
          by_cases hxy:x=y
          · subst hxy
            simp[ih]
          · simp[hxy]
        · cases h3
      · cases he
    · cases he
def yO (P:Program)(t:TypeId)(fs:Array Field):Bool:= !P.stoodInHeld t&& !P.eqGuardType P.depth t&&qG P 0 fs.toList
theorem Vq (R:zi E N V st a.tmps)(F:zo N V st d){op:BinOp}{xt yt:TypeId}{fs:Array Field}{x y:Operand}{ox oy:zm}(ho:o.op= .binOp op xt x y yt)(hu:P.underlying xt=some (.struct fs))
    (hok:yO P xt fs=true) (hx:zd x=some ox) (hy:zd y=some oy) {A:za} (h:jd st (.bin d op (6+fs.toList.length) ox oy)=some A):ZW Ls E N V st a P o d A:=by
  have h':(match st.ev ox,st.ev oy with
      | .agg as,.agg bs=>if as.length=6+fs.toList.length - 6 then(qk as bs).bind fun b=>ZF op b else none
      |_,_=>none)=some A:=by
    have e:∀k,6≤k→jd st (.bin d op k ox oy)=(match st.ev ox,st.ev oy with
      | .agg as,.agg bs=>if as.length=k - 6 then(qk as bs).bind fun b=>ZF op b else none
      |_,_=>none):=by
      intro k hk
      match k,hk with
      |k+6,_=>simp only[jd];rw[if_pos (Nat.le_add_left 6 k)];rfl
    rw[←e _ (Nat.le_add_right 6 _)]
    exact h
  split at h'
  · rename_i as bs hm hn
    split at h'
    · rename_i hl
      obtain⟨b,hb,hA⟩:=Option.bind_eq_some_iff.1 h'
      obtain⟨v,po,h1,h2,_⟩:=zj R hx hm rfl
      obtain⟨u,po',h3,h4,_⟩:=zj R hy hn rfl
      cases h2 with
      |agg _ _ xs hs hvx=>
      cases h4 with
      |agg _ _ ys hs' hvy=>
      simp only[yO,Bool.and_eq_true,Bool.not_eq_true'] at hok
      obtain⟨⟨k1,k2⟩,k3⟩:=hok
      have hf:P.fieldsOf xt=fs:=by simp[Program.fieldsOf,hu]
      have sub:∀{cs:List za} {vs:Array Value} {po:Option (List Nat)},vs.size=cs.length→(∀(k:Nat) A v,cs[k]?=some A→vs[k]?=some v→VRel E (po.map (· ++[k])) A v)→∀k v,cs[k]?=some (.sc v)→vs[0+k]?=some v:=by
        intro cs vs po hsz hr k v hk
        rw[Nat.zero_add]
        have hlt:k<vs.size:=by rw[hsz];exact(List.getElem?_eq_some_iff.1 hk).1
        have:=hr k _ vs[k] hk (by simp[hlt])
        generalize hw:vs[k]=w' at this
        generalize Option.map (fun x=>x++[k]) po=q at this
        cases this
        simp[hlt,hw]
      have key:∀w,(Op.equalIn 10000 xt (.agg xs) (.agg ys)).run P w= .ok b w:=fun w=>by
        rw[run_equalIn_agg w 9999 xt xs ys (by rw[hf];exact hu) k1,hf]
        exact qY (d:=9998) fs.toList 0 as bs b w k3 hb (by omega) (sub hs hvx) (sub hs' hvy)
      have hg:∀w,(eqGuard op xt x y (.agg xs) (.agg ys)).run P w= .ok () w:=fun w=>run_eqGuard_agg w op xt x y xs ys k2
      cases op<;>simp[ZF] at hA<;>subst hA
      · refine .pure (fun w=>?_) (z2 R F (.bool b))
        simp only[execOp,ho,h1,h3,Sem.run_bind,hg,Result.andThen_ok,run_eql_struct,key]
        rfl
      · refine .pure (fun w=>?_) (z2 R F (.bool !b))
        simp only[execOp,ho,h1,h3,Sem.run_bind,hg,Result.andThen_ok,run_neq_struct,key]
        rfl
    · cases h'
  · cases h'
theorem Vm (R:zi E N V st a.tmps)(F:zo N V st d){t e:TypeId}{n:Nat}{inf:TypeInfo}{x i:Operand}{ox oi:zm}(ho:o.op= .indexAddr t x i)
    (hu:P.underlying t=some (.array n e)) (hi:P.info? e=some inf) (hx:zd x=some ox) (hoi:zd i=some oi)
    {A:za} (h:jd st (.idxP d ox oi n inf.size)=some A):ZW Ls E N V st a P o d A:=by
  simp only[jd] at h
  split at h
  · rename_i j hj
    obtain⟨kd,hk⟩:=Ji R hoi hj
    split at h
    · rename_i hc
      obtain⟨h0,hlt⟩:=hc
      have hlt2:j<(n:Int):=by omega
      have hrun:∀(b k:Nat) (w:World),(Instr.indexAt t (.pointer (some ⟨b,k,none⟩)) (.int kd j)).run P w= .ok (.pointer (some ⟨b,k+j.toNat*inf.size,none⟩)) w:=fun b k w=>by
        simp[Instr.indexAt,asIntOf,run_underlying hu,sizeOf,typeInfo,hi,h0,hlt2,Addr.add_lit,Instr.sureAddr]
      split at h
      · rename_i id off hb
        cases h
        obtain⟨v,po,h1,h2,_⟩:=zj R hx (zO hb rfl) rfl
        cases h2 with
        | ptr _ _ _ hn=>
          refine .pure (v:= .pointer (some ⟨E.ρ id,E.β id+off+j.toNat*inf.size,none⟩)) (fun w=>by simp[execOp,ho,h1,hk,hrun]) (JW (po:=none) R F ?_ rfl)
          have:=VRel.ptr (E:=E) none id (off+j.toNat*inf.size) hn
          rwa [←Nat.add_assoc] at this
      · rename_i cs hb
        cases h
        obtain⟨v,po,h1,h2,_⟩:=zj R hx (zO hb rfl) rfl
        have h2':=h2
        cases h2 with
        |ia _ _ b k f hO hb hf' hh=>exact .pure (fun w=>by simp[execOp,ho,h1,hk,hrun]) (JW R F (h2'.iaDrop (j.toNat*inf.size)) rfl)
      · rename_i p k hb
        cases h
        obtain⟨hd,cs,v,b,o',h1,h2,h3,h4,_⟩:=jP R hx hb
        refine .pure (v:= .pointer (some ⟨b,o'+k+j.toNat*inf.size,none⟩)) (fun w=>by simp[execOp,ho,h4,hk,hrun]) ?_
        rw[Nat.add_assoc]
        exact R.putT_addr F.lt F.v F.t h1 h2 h3
      · cases h
    · cases h
  · cases h
end
end Go.Ga

namespace Go.Ga
open Go
def zb.shareAt (st:zb)(p:List Nat)(cs:List za)(B:za):zb:=
 let st1:=(st.kill (za.under p false)).setAt p B
 {st1 with h:=st1.h++[some cs]}
def zb.evU (st:zb):zm→za
 | .t i=>match zG st.ts i with
   |some A=>A
   | none=>match st.get i with
     | .agg cs=>bif za.copyableL cs then .agg cs else .at_ [0,i]
     |A=>A.here i
 | .c v=> .sc v
 | .f g=> .fn (.func g) [] []
def zb.use (st:zb)(x:zm)(mv:Bool):Option (za×zb):=
 let A:=st.evU x
 bif A.copyable then some (A,st) else
 match A,x with
 | .own hd cs,.t i=>some (.own hd cs,st.assign i .dead)
 | .agg cs,.t i=>some (.agg cs,st.assign i .dead)
 | .tup cs,.t i=>some (.tup cs,st.assign i .dead)
 | .mp ks,.t i=>some (.mp ks,st.assign i .dead)
 | .at_ p,_=>match st.at p with
   |some B=>bif mv then some (B,(st.kill (za.under p false)).setAt p .dead) else some (B.freeze,(st.kill (za.under p false)).setAt p B.freeze)
   |none=>none
 | .addr p k,_=>match st.at p with
   |some (.own none cs)=>some (.ptr st.h.length k,st.shareAt p cs (.ptr st.h.length 0))
   |_=>none
 |_,_=>none
section
variable {E:Env} {N:Nat} {V:List Nat} {st:zb} {a:Act} {P:Program} {o:Oper} {d:Nat}
def Xr (E:Env)(l:List (Nat×za×Value)):Prop:=∀x∈l,VRel E (some [9,x.1]) x.2.1 x.2.2
theorem kA {j j':Nat}(h:j≠j'){ks:List Nat}:ZN [9,j] (9::j'::ks):=by
 constructor<;>intro hp
 · rw[List.cons_prefix_cons,List.cons_prefix_cons] at hp;exact h hp.2.1
 · rw[List.cons_prefix_cons,List.cons_prefix_cons] at hp;exact h hp.2.1.symm
theorem Xr.under {p:List Nat}{E':Env}{l:List (Nat×za×Value)}(F:Xr E l)(U:zM p E E')(h:∀x∈l,ZN p [9,x.1]):Xr E' l:=fun x hx=>U.keep (F x hx) fun ℓ e=>by cases e;exact h x hx
theorem Zo {p:List Nat}(h:yv p):qe p:=by
 cases h
 · exact jp _ _
 · exact Ye _
theorem Wg {p:List Nat}(h:yv p)(j:Nat):ZN p [9,j]:=by
 cases h<;>exact zl (by decide)
def Env.more (E:Env)(b o' κ':Nat):Env:=
 {E with ρ:=fun id=>if id=E.n then b else E.ρ id,β:=fun id=>if id=E.n then o' else E.β id,κ:=fun id=>if id=E.n then κ' else E.κ id,n:=E.n+1}
theorem QC {b o' κ':Nat}:E.ids (E.more b o' κ'):=⟨Nat.le_succ _,fun id h=>by simp[Env.more,Nat.ne_of_lt h]⟩
theorem wu {L:List (List Nat)}{b o' κ':Nat}:zy L E (E.more b o' κ'):=⟨Nat.le_refl _,rfl,rfl,rfl,fun _ h _=>⟨h,rfl⟩,fun _ _ h=>⟨h,rfl⟩,fun _ _ h=>h,QC,fun _ _ _ h _=>⟨.inl h,rfl⟩⟩
def clear (L:List (List Nat))(p:List Nat):Bool:=L.all fun r=> !p.isPrefixOf r
theorem Js {L:List (List Nat)}{p:List Nat}(h:clear L p=true)(r:List Nat)(hp:p<+:r):¬kL L r:=fun hr=>by
 have:=List.all_eq_true.1 h r hr.1
 rw[List.isPrefixOf_iff_prefix.2 hp] at this
 cases this
def zb.useQ (L:List (List Nat))(st:zb)(x:zm)(mv:Bool):Bool:=
 match st.evU x,x with
 | .own _ _,.t i=>clear L [0,i]
 | .agg _,.t i=>clear L [0,i]
 | .tup _,.t i=>clear L [0,i]
 | .mp _,.t i=>clear L [0,i]
 | .at_ p,_=>bif mv then clear L p else true
 | .addr p _,_=>clear L p
 |_,_=>true
theorem UX {p:List Nat}:clear [] p=true:=rfl
theorem J1 {st:zb}{x:zm}{mv:Bool}:st.useQ [] x mv=true:=by
 unfold zb.useQ
 split<;>first
  |rfl
  |(cases mv<;>rfl)
theorem zi.more {tm:Array Value}(R:zi E N V st tm)(b o' κ':Nat):zi (E.more b o' κ') N V {st with h:=st.h++[none]} tm:=by
 have hat:∀q B,st.at q=some B→zb.at {st with h:=st.h++[none]} q=some B:=by
  intro q B hB
  match q,hB with
  |0::i::ks,hB=>exact hB
  | 1 ::id::k::ks,hB=>
    simp only[zb.at] at hB⊢
    split at hB
    · rename_i cs hcs
      have:(st.h++[none])[id]?=some (some cs):=by rw[List.getElem?_append_left (List.getElem?_eq_some_iff.1 hcs).1];exact hcs
      rw[this];exact hB
    · cases hB
 have R1:zi {E.more b o' κ' with n:=E.n} N V st tm:=by
  have U:zM [9] E {E.more b o' κ' with n:=E.n}:=⟨Nat.le_refl _,⟨Nat.le_refl _,QC.2⟩,fun _ h _=>⟨h,rfl⟩,fun _ _ h _=>⟨h,rfl⟩⟩
  exact R.under U R.lim rfl (fun _ _=>zl (by decide)) (fun _=>zl (by decide)) (fun _ _ _ _ _=>zl (by decide))
 have keep:∀{po A v},VRel {E.more b o' κ' with n:=E.n} po A v→VRel (E.more b o' κ') po A v:=fun h=>
  VRel.keep (E:={E.more b o' κ' with n:=E.n}) (E':=E.more b o' κ') ⟨Nat.le_succ _,fun _ _=>⟨rfl,rfl,rfl⟩⟩ (Nat.le_refl _) h fun _ _=>⟨rfl,rfl⟩
 refine⟨R.size,R.keys,by simp[Env.more,R.num],R.disj,R.lim,R.roots,fun i=>?_,fun id cs hcs=>?_⟩
 · exact Zt.carry (R1.slots i) rfl (fun v _ h=>keep h) fun p _ B hB hA=>⟨⟨B,hat p B hB,hA,fun hd cs e=>⟨hd,cs,e⟩⟩,by
    match p with
    |0::i::ks=>rfl
    |1::id::ks=>rfl
    |[]=>rfl
    |[0]=>rfl
    |[1]=>rfl
    |(n+2)::_=>simp only[zr]⟩
 · have hcs':st.h[id]?=some (some cs):=by
    change (st.h++[none])[id]?=some (some cs) at hcs
    rw[List.getElem?_append] at hcs
    split at hcs
    · exact hcs
    · rename_i hge
      have:id - st.h.length=0∨0<id - st.h.length:=Nat.eq_zero_or_pos _
      rcases this with e|e
      · rw[e] at hcs;simp at hcs
      · rw[List.getElem?_eq_none (by simp;omega)] at hcs;cases hcs
   obtain⟨hO,arr,T,f,hb,ha,hl,hf,hv⟩:=R1.objs id cs hcs'
   exact⟨hO,arr,T,f,hb,ha,hl,hf,fun k A hk=>keep (hv k A hk)⟩
theorem zi.revive {tm:Array Value}{h':Heap}{id:Nat}{cs:List za}(R:zi E N V st tm)(hl:h'.length=st.h.length)(hid:h'[id]?=some (some cs))(ho:∀j,j≠id→h'[j]?=st.h[j]?)(hn:st.h[id]?=some none)(hO:JU E id cs):
    zi E N V {st with h:=h'} tm:=by
  have hat:∀q B,st.at q=some B→zb.at {st with h:=h'} q=some B:=by
    intro q B hB
    match q,hB with
    |0::i::ks,hB=>exact hB
    | 1::j::k::ks,hB=>
      simp only[zb.at] at hB⊢
      by_cases hj:j=id
      · subst hj;rw[hn] at hB;cases hB
      · rw[ho j hj];exact hB
  refine⟨R.size,R.keys,R.num.trans hl.symm,R.disj,R.lim,R.roots,fun i=>?_,fun j cs' hj=>?_⟩
  · exact Zt.carry (R.slots i) rfl (fun v _ h=>h) fun p _ B hB hA=>⟨⟨B,hat p B hB,hA,fun hd cs e=>⟨hd,cs,e⟩⟩,rfl⟩
  · by_cases hj':j=id
    · subst hj'
      change h'[j]?=some (some cs') at hj
      rw[hid] at hj
      cases hj
      exact hO
    · exact R.objs j cs' (by rw[←ho j hj'];exact hj)
theorem Ui {p:List Nat}{B:za}:(st.setAt p B).h.length=st.h.length:=by
 match p with
 |0::i::ks=>simp only[zb.setAt];rw[(zb.set_keys _ _ _).2.2]
 | 1::id::k::ks=>
   simp only[zb.setAt]
   split
   · simp
   · rfl
 |[]=>rfl
 |[0]=>rfl
 |[1]=>rfl
 |[1,_]=>rfl
 |(n+2)::_=>simp only[zb.setAt]
theorem XM {p:List Nat}{B:za}{X:Option (List za)}(hp:st.at p≠none):(zb.setAt {st with h:=st.h++[X]} p B)={st.setAt p B with h:=(st.setAt p B).h++[X]}:=by
 match p,hp with
 | 0::i::ks,_=>
   simp only[zb.setAt,zb.set,zb.get]
   split<;>rfl
 | 1 ::id::k::ks,hp=>
   simp only[zb.at] at hp
   split at hp
   · rename_i cs hcs
     have hlt:=(List.getElem?_eq_some_iff.1 hcs).1
     have e:(st.h++[X])[id]?=some (some cs):=by rw[List.getElem?_append_left hlt];exact hcs
     simp only[zb.setAt,e,hcs]
     rw[List.set_append_left _ _ hlt]
   · exact absurd rfl hp
 |[],hp=>exact absurd rfl hp
 |[0],hp=>exact absurd rfl hp
 |[1],hp=>exact absurd rfl hp
 |[1,_],hp=>exact absurd rfl hp
 |(n+2)::_,hp=>simp only[zb.at] at hp;exact absurd rfl hp
theorem UI {bad:za→Bool}{X:Option (List za)}:zb.kill {st with h:=st.h++[X]} bad={st.kill bad with h:=(st.kill bad).h++[X]}:=rfl
end
end Go.Ga

namespace Go.Ga
open Go
section
variable {L:List (List Nat)} {E:Env} {N:Nat} {V:List Nat} {st:zb} {a:Act} {P:Program} {o:Oper} {d:Nat}
theorem W0 (R:zi E N V st a.tmps){p:List Nat}{cs:List za}(h:st.at p=some (.own none cs)){l:List (Nat×za×Value)}(Fl:Xr E l)(hq:clear L p=true):
    ∃ E1,zi E1 N V (st.shareAt p cs (.ptr st.h.length 0)) a.tmps∧Xr E1 l∧zy L E E1∧E1.w=E.w∧E1.n=E.n+1∧
      ∃b,zr E a.tmps p=some (.pointer (some ⟨b,0,none⟩))∧E1.ρ E.n=b∧E1.β E.n=0:=by
  obtain⟨u,hu,hr⟩:=R.at_ h rfl
  have hp:=zq h
  cases hr with
  | box _ _ b arr T f hO hb ha hf hh=>
    let E1:=E.more b 0 arr.size
    have R1:=R.more b 0 arr.size
    have hat1:zb.at {st with h:=st.h++[none]} p=some (.own none cs):=by
      match p,h with
      |0::i::ks,h=>exact h
      | 1 ::id::k::ks,h=>
        simp only[zb.at] at h⊢
        split at h
        · rename_i cs' hcs
          have:(st.h++[none])[id]?=some (some cs'):=by rw[List.getElem?_append_left (List.getElem?_eq_some_iff.1 hcs).1];exact hcs
          rw[this];exact h
        · cases h
    have hpv1:zr E1 a.tmps p=some (.pointer (some ⟨b,0,none⟩)):=by
      obtain⟨u',hu',hr'⟩:=R1.at_ hat1 rfl
      have:zr E1 a.tmps p=zr E a.tmps p:=by
        match p,h with
        |0::i::ks,_=>rfl
        | 1 ::id::k::ks,h=>
          simp only[zb.at] at h
          split at h
          · rename_i cs' hcs
            have:id<E.n:=by rw[R.num];exact(List.getElem?_eq_some_iff.1 hcs).1
            simp only[zr,Env.ptr,E1,Env.more,Nat.ne_of_lt this,if_false]
          · cases h
      rw[this];exact hu
    have U1:zM p E1 (E1.relab p [1,E.n]):=zI p [1,E.n]
    have hlim1:=Zx (E:=E1) (p:=p) (q:=[1,E.n]) R1.lim
    have hptr:VRel (E1.relab p [1,E.n]) (some p) (.ptr E.n 0) (.pointer (some ⟨b,0,none⟩)):=by
      have:=VRel.ptr (E:=E1.relab p [1,E.n]) (some p) E.n 0 (by simp[E1,Env.more,Env.relab])
      simpa[E1,Env.more,Env.relab] using this
    have R2:=R1.turn (B':= .ptr E.n 0) (keep:=false) hat1 rfl (fun e=>by cases e) U1 hlim1 rfl hpv1 hptr
    rw[UI,XM (by
      obtain⟨C',h1,h2⟩:=Wp (bad:=za.under p false) (fun A h=>J3 h) h
      rw[h1];simp)] at R2
    have hOR:JU (E1.relab p [1,E.n]) E.n cs:=by
      refine⟨?_,arr,T,f,?_,?_,?_,?_,?_⟩
      · show relab p [1,E.n] E.O (if E.n=E.n then b else E.ρ E.n)=_
        rw[if_pos rfl]
        simpa using jo (q:=[1,E.n]) (r:=[]) (by simpa using hO)
      · show Jw E.w (if E.n=E.n then b else E.ρ E.n) arr T
        rw[if_pos rfl];exact hb
      · simp[E1,Env.more,Env.relab]
      · simp[E1,Env.more,Env.relab,ha]
      · intro k A hk;simpa[E1,Env.more,Env.relab] using hf k A hk
      · intro k A hk
        have h1:VRel E1 (some (p++[k])) A (f k):=VRel.keep (E:=E) (E':=E1) QC (Nat.le_refl _) (hh k A hk) fun _ _=>⟨rfl,rfl⟩
        exact(h1.moved p [1,E.n] [k]).2 rfl
    have hlen:((st.kill (za.under p false)).setAt p (.ptr E.n 0)).h.length=E.n:=by rw[Ui,R.num];rfl
    have R3:=R2.revive (id:=E.n) (cs:=cs) (h':=((st.kill (za.under p false)).setAt p (.ptr E.n 0)).h++[some cs]) (by simp) (by rw[List.getElem?_append_right (by omega)];simp[hlen])
      (fun j hj=>by
        show _=(((st.kill (za.under p false)).setAt p (.ptr E.n 0)).h++[none])[j]?
        rw[List.getElem?_append,List.getElem?_append]
        split
        · rfl
        · rename_i hge
          have:1≤j - ((st.kill (za.under p false)).setAt p (.ptr E.n 0)).h.length:=by omega
          rw[List.getElem?_eq_none (by simpa using this),List.getElem?_eq_none (by simpa using this)])
      (by
        show(((st.kill (za.under p false)).setAt p (.ptr E.n 0)).h++[none])[E.n]?=_
        rw[List.getElem?_append_right (by omega)];simp[hlen]) hOR
    refine⟨E1.relab p [1,E.n],?_,?_,wu.trans (zk (Zo hp) (Ye _) (Js hq)),rfl,rfl,b,hu,by simp[E1,Env.more,Env.relab],by simp[E1,Env.more,Env.relab]⟩
    · rw[show st.h.length=E.n from R.num.symm]
      exact R3
    · have F1:Xr E1 l:=fun x hx=>VRel.keep (E:=E) (E':=E1) QC (Nat.le_refl _) (Fl x hx) fun _ _=>⟨rfl,rfl⟩
      exact F1.under U1 fun x _=>Wg hp x.1
theorem Z7 {A:za}(h:A.copyable=true):A.isAlias=false:=by
 cases A<;>simp[za.copyable,za.isAlias] at h⊢
theorem Ww {ox:zm}{A:za}(h:st.evU ox=A)(hn:A.isAlias=false):st.ev ox=A:=by
 cases ox with
 | t i =>
   simp only[zb.evU] at h
   split at h
   · rename_i B hB
     show ZM (zG st.ts i) _=A
     rw[hB];exact h
   · split at h
     · rename_i cs hg
       cases hc:za.copyableL cs with
       |true=>rw[hc] at h;exact hg.trans h
       |false=>rw[hc] at h;subst h;cases hn
     · exact xr h hn
 |c v=>exact h
 |f g=>exact h
theorem gM (R:zi E N V st a.tmps){x:Operand}{ox:zm}(hx:zd x=some ox){p:List Nat}(hA:st.evU ox= .at_ p):
    ∃B v,st.at p=some B∧B.isAlias=false∧zr E a.tmps p=some v∧a.eval x=v∧VRel E (some p) B v:=by
  cases ox with
  | t i =>
    simp only[zb.evU] at hA
    split at hA
    · rename_i B hB
      refine qX R hx (show st.get i=_ from ?_)
      show ZM (zG st.ts i) _=_
      rw[hB];exact hA
    · split at hA
      · rename_i cs hg
        cases hc:za.copyableL cs with
        |true=>rw[hc] at hA;cases hA
        | false=>
          rw[hc] at hA
          cases hA
          obtain⟨v,po,h1,h2,h3⟩:=zj R hx (A:= .agg cs) hg rfl
          obtain⟨h4,rfl⟩:=h3 i rfl
          exact⟨.agg cs,v,by rw[YR,hg],rfl,Qa h4,h1,h2⟩
      · exact uI R hx rfl hA
  |c v=>cases hA
  |f g=>cases hA
theorem V9 (R:zi E N V st a.tmps){x:Operand}{ox:zm}(hx:zd x=some ox){p:List Nat}{k:Nat}(hA:st.evU ox= .addr p k):
    ∃hd cs v b o,st.at p=some (.own hd cs)∧zr E a.tmps p=some v∧Ga.Value.base v=some (b,o)∧a.eval x= .pointer (some ⟨b,o+k,none⟩)∧VRel E (some p) (.own hd cs) v:=by
  cases ox with
  | t i =>
    simp only[zb.evU] at hA
    split at hA
    · rename_i B hB
      refine yJ R hx (show st.get i=_ from ?_)
      show ZM (zG st.ts i) _=_
      rw[hB];exact hA
    · split at hA
      · rename_i cs hg
        cases hc:za.copyableL cs with
        |true=>rw[hc] at hA;cases hA
        |false=>rw[hc] at hA;cases hA
      · exact wG R hx rfl hA
  |c v=>cases hA
  |f g=>cases hA
theorem Zv (R:zi E N V st a.tmps){x:Operand}{ox:zm}(hx:zd x=some ox){mv:Bool}{A:za}{st1:zb}(h:st.use ox mv=some (A,st1))(j:Nat){l:List (Nat×za×Value)}(Fl:Xr E l)(hj:∀y∈l,y.1≠j)(hq:st.useQ L ox mv=true):
    ∃E1,zi E1 N V st1 a.tmps∧Xr E1 ((j,A,a.eval x)::l)∧zy L E E1∧E1.w=E.w:=by
  have cons:∀{E1:Env},VRel E1 (some [9,j]) A (a.eval x)→Xr E1 l→Xr E1 ((j,A,a.eval x)::l):=fun h1 h2 y hy=>by
    cases hy with
    |head=>exact h1
    |tail _ hy=>exact h2 y hy
  have slot:∀(i:Nat) (B:za),ox= .t i→st.evU ox=B→B.isAlias=false→clear L [0,i]=true→some (B,st.assign i .dead)=some (A,st1)→
      ∃E1,zi E1 N V st1 a.tmps∧Xr E1 ((j,A,a.eval x)::l)∧zy L E E1∧E1.w=E.w:=by
    intro i B hox hB hnB hqc hqq
    obtain⟨v,po,h1,h2,h3⟩:=zj R hx (Ww hB hnB) hnB
    obtain⟨h4,rfl⟩:=h3 i hox
    subst hox
    obtain⟨Rt,Vt⟩:=R.take (j:=j) (show st.get i=B from Ww hB hnB) hnB h4
    have Ft:Xr (E.relab [0,i] [9,j]) l:=Fl.under (zI _ _) fun x _=>zl (by decide)
    have Pt:zy L E (E.relab [0,i] [9,j]):=zk (jp i []) (z6 _) (Js hqc)
    cases hqq
    rw[h1] at cons⊢
    exact⟨_,Rt,cons Vt Ft,Pt,rfl⟩
  unfold zb.use at h
  rcases zE h with⟨hc,h⟩|⟨hc,h⟩
  · cases h
    obtain⟨v,po,h1,h2,_⟩:=zj R hx (Ww rfl (Z7 hc)) (Z7 hc)
    exact⟨E,R,cons (by rw[h1];exact h2.copy _ hc) Fl,zy.refl E,rfl⟩
  · unfold zb.useQ at hq
    cases hA:st.evU ox with
    | own hd cs=>
      rw[hA] at h hq
      cases ox with
      |t i=>exact slot i _ rfl hA rfl hq h
      |c v=>cases hA
      |f g=>cases hA
    | agg cs=>
      rw[hA] at h hq
      cases ox with
      |t i=>exact slot i _ rfl hA rfl hq h
      |c v=>cases hA
      |f g=>cases hA
    | tup cs=>
      rw[hA] at h hq
      cases ox with
      |t i=>exact slot i _ rfl hA rfl hq h
      |c v=>cases hA
      |f g=>cases hA
    | mp ks=>
      rw[hA] at h hq
      cases ox with
      |t i=>exact slot i _ rfl hA rfl hq h
      |c v=>cases hA
      |f g=>cases hA
    | at_ p=>
      rw[hA] at h hq
      obtain⟨B,v,h1,h2,h3,h4,h5⟩:=gM R hx hA
      have hp:=zq h1
      simp only[h1] at h
      rw[h4] at cons⊢
      rcases zE h with⟨hmv,h⟩|⟨_,h⟩
      · cases h
        subst hmv
        have U:zM p E (E.relab p [9,j]):=zI p [9,j]
        have R2:=R.turn (B':= .dead) (keep:=false) h1 h2 (fun e=>by cases e) U (Zx R.lim) rfl h3 (.dead _ _)
        exact⟨_,R2,cons (by simpa using (h5.moved p [9,j] []).2 (by simp)) (Fl.under U fun y _=>Wg hp y.1),zk (Zo hp) (z6 _) (Js (by simpa using hq)),rfl⟩
      · cases h
        have U:zM p E (E.freeze p):=jA p
        have hB:VRel (E.freeze p) (some p) B.freeze v:=h5.frozen p _ fun ℓ e=>by cases e;exact List.prefix_refl _
        have R2:=R.turn (B':=B.freeze) (keep:=false) h1 h2 (fun e=>by cases e) U (JO R.lim) rfl h3 hB
        exact⟨_,R2,cons (h5.frozen p _ fun ℓ e=>by cases e;exact List.prefix_refl _) (Fl.under U fun y _=>Wg hp y.1),j0 (Zo hp),rfl⟩
    | addr p k=>
      rw[hA] at h hq
      obtain⟨hd,cs,v,b,o',h1,h2,h3,h4,_⟩:=V9 R hx hA
      simp only[h1] at h
      cases hd with
      |some sz=>cases h
      | none=>
        cases h
        obtain⟨E1,R1,F1,P1,hw,hn,b',hb',e1,e2⟩:=W0 R h1 Fl (by simpa using hq)
        rw[h2] at hb'
        cases hb'
        cases h3
        refine⟨E1,R1,cons ?_ F1,P1,hw⟩
        rw[h4,←R.num]
        have:=VRel.ptr (E:=E1) (some [9,j]) E.n k (by omega)
        rwa [e1,e2] at this
    |_=>rw[hA] at h;cases h
end
end Go.Ga

namespace Go.Ga
open Go
mutual
def za.cellOk :za→Bool
 | .sc (.agg _)=>false
 | .sc (.tuple _)=>false
 | .sc _=>true
 | .imm _ _=>true
 | .own _ _=>true
 | .sl _ _ _ _=>true
 | .ptr _ _=>true
 | .ia _=>true
 | .fn _ _ _=>true
 | .iface _ _=>true
 |_=>false
def za.cellOkL :List za→Bool
 |[]=>true
 |A::l=>A.cellOk&&za.cellOkL l
end
theorem Jc :∀{l:List za} {k:Nat} {A:za},za.cellOkL l=true→l[k]?=some A→A.cellOk=true
 |A::l,0,B,h,e=>by simp only[za.cellOkL,Bool.and_eq_true] at h;cases e;exact h.1
 |A::l,k+1,B,h,e=>by simp only[za.cellOkL,Bool.and_eq_true] at h;exact Jc h.2 e
theorem VRel.oneCell {E:Env}{po:Option (List Nat)}{A:za}{v:Value}(h:VRel E po A v)(hc:A.cellOk=true):v.oneCell'=true:=by
 cases h with
 | sc=>cases v<;>first
   |rfl
   |cases hc
 |dead=>cases hc
 |agg=>cases hc
 |tup=>cases hc
 |_=>rfl
def za.cells :za→List za
 | .agg cs=>cs
 |A=>[A]
def zv (zs:List Value)(n:Nat):List za:=(List.replicate n (zs.map za.sc)).flatten
def zb.dec (st:zb)(x:zm):Option Int:=(st.ev x).int?
section
variable {L:List (List Nat)} {E:Env} {N:Nat} {V:List Nat} {st:zb} {a:Act} {P:Program} {o:Oper} {d:Nat}
def Jj (L:List (List Nat))(E:Env)(N:Nat)(V:List Nat)(st':zb)(a:Act)(P:Program)(o:Oper)(d:Nat):Prop:=
 ∃v E',(execOp a.eval o).run P E.w= .ok (.value v) E'.w∧zi E' N V st' (a.tmps.setIfInBounds d v)∧zy L E E'
def kJ (st:zb)(d:Nat)(x:zm)(mv:Bool):Option zb:=
 match st.use x mv with
 |some (A,st1)=>some (st1.assign d A)
 |none=>none
theorem ge (R:zi E N V st a.tmps)(hd:d∈V)(hN:d<N){x:Operand}{ox:zm}(ho:o.op= .assign x∨o.op= .move x)(hx:zd x=some ox){mv:Bool}{st':zb}(h:kJ st d ox mv=some st')(hq:st.useQ L ox mv=true):Jj L E N V st' a P o d:=by
 unfold kJ at h
 split at h
 · rename_i A st1 hu
   cases h
   obtain⟨E1,R1,F1,P1,hw⟩:=Zv R hx hu 0 (l:=[]) (fun x hx=>by cases hx) (fun x hx=>by cases hx) hq
   have hv:=(F1 _ (List.mem_cons_self ..)).land [0,d]
   refine⟨a.eval x,E1.relab [9,0] [0,d],?_,(R1.land [0,d]).assign hN (.inl hd) hv,P1.trans (zk (z6 _) (jp _ _) (zN (by decide) _))⟩
   show _=Result.ok _ E1.w
   rw[hw]
   rcases ho with ho|ho<;>simp[execOp,ho]
 · cases h
theorem wI (R:zi E N V st a.tmps)(F:zo N V st d){arr:Array Value}{T:TypeId}{A:za}{v:Value}
    (hv:VRel (E.fresh (.cells arr T) [0,d]) (some [0,d]) A v):zi (E.fresh (.cells arr T) [0,d]) N V (st.putT d A) (a.tmps.setIfInBounds d v)∧zy L E (E.fresh (.cells arr T) [0,d]):=by
  have hp:zM [9,0] E (E.fresh (.cells arr T) [0,d]):=by
    have U:=jl R.lim (.cells arr T) [0,d]
    refine⟨U.size,U.ids,U.none_,fun b q hb _=>⟨by simp[Env.fresh,Nat.ne_of_lt (R.lim b q hb),hb],ji (R.lim b q hb)⟩⟩
  have R1:=R.flight hp (qF R.lim _ _) rfl
  exact⟨R1.putT_val F.lt F.v F.t hv,JI R.lim _ (jp d [])⟩
theorem QN (R:zi E N V st a.tmps)(F:zo N V st d){arr:Array Value}{T:TypeId}{A:za}{v:Value}(hrun:(execOp a.eval o).run P E.w= .ok (.value v) (E.w.alloc (.cells arr T)))
    (hv:VRel (E.fresh (.cells arr T) [0,d]) (some [0,d]) A v):Jj L E N V (st.putT d A) a P o d:=
  ⟨v,E.fresh (.cells arr T) [0,d],hrun,wI R F hv⟩
theorem ZU {arr:Array Value}{T:TypeId}{ℓ:List Nat}:(E.fresh (.cells arr T) ℓ).w.heap[E.w.heap.size]?=some (.cells arr T (0,0)):=by
 show(E.w.heap.push _)[E.w.heap.size]?=_
 simp
theorem Ja {o:Obj}{ℓ:List Nat}:(E.fresh o ℓ).O E.w.heap.size=some ℓ:=by simp[Env.fresh]
theorem xx {n sz:Nat}{l:List za}(hl:l.length=sz)(k:Nat)(hk:k<n*sz):(List.replicate n l).flatten[k]?=l[k%sz]?:=by
 induction n generalizing k with
 |zero=>simp at hk
 | succ n ih=>
   rw[List.replicate_succ,List.flatten_cons,List.getElem?_append]
   split
   · rename_i h;rw[Nat.mod_eq_of_lt (by omega)]
   · rename_i h
     rw[hl] at h⊢
     have hk':k - sz<n*sz:=by rw[Nat.add_mul,Nat.one_mul] at hk;omega
     rw[ih _ hk']
     congr 1
     rw[←Nat.mod_eq_sub_mod (by omega)]
theorem ZO (zs:List Value)(n:Nat):(zv zs n).length=n*zs.length:=by
 simp[zv,List.length_flatten]
theorem Zu {zs:List Value}{n k:Nat}{A:za}(h:(zv zs n)[k]?=some A):k<n*zs.length∧∃hz:k%zs.length<zs.length,A= .sc zs[k%zs.length]:=by
 have hlt:k<n*zs.length:=by rw[←ZO];exact(List.getElem?_eq_some_iff.1 h).1
 have hz:0<zs.length:=by
  rcases Nat.eq_zero_or_pos zs.length with e|e
  · rw[e] at hlt;simp at hlt
  · exact e
 refine⟨hlt,Nat.mod_lt _ hz,?_⟩
 unfold zv at h
 rw[xx (l:=zs.map za.sc) (sz:=zs.length) (by simp) k hlt] at h
 rw[List.getElem?_map,List.getElem?_eq_getElem (Nat.mod_lt _ hz)] at h
 exact(Option.some.inj h).symm
def gf (st:zb)(d:Nat)(l c:zm)(sz bs:Nat)(zs:List Value):Option zb:=
 match st.dec l,st.dec c with
 |some n,some m=>if 0≤n∧n≤m∧bs*m.toNat≤140737488355328∧m≤9223372036854775807 then some (st.putT d (.own (some sz) (zv zs n.toNat))) else none
 |_,_=>none
theorem GT (R:zi E N V st a.tmps)(F:zo N V st d){t e:TypeId}{inf:TypeInfo}{z:Value}{l c:Operand}{ol oc:zm}(ho:o.op= .makeSlice t l c)(hu:P.underlying t=some (.slice e))(hi:P.info? e=some inf)
    (hz:inf.zero=some z) (hzs:z.cells.size=inf.size) (hsz:0<inf.size) (hl:zd l=some ol) (hc:zd c=some oc) {st':zb} (h:gf st d ol oc inf.size inf.bytes z.cells.toList=some st'):Jj L E N V st' a P o d:=by
  unfold gf at h
  split at h
  · rename_i n m hn hm
    obtain⟨kl,h1⟩:=Ji R hl hn
    obtain⟨kc,h2⟩:=Ji R hc hm
    split at h
    · rename_i hcond
      obtain⟨h0,hnm,hb,h63⟩:=hcond
      cases h
      have hbytes:(inf.bytes:Int)*m≤281474976710656:=by
        have e:m=((m.toNat:Nat):Int):=by omega
        rw[e,←Int.natCast_mul];omega
      have hr:=run_make (P:=P) E.w t e inf z hu hi hz kl kc n m h0 hnm hbytes h63
      refine QN R F (T:=e) (v:= .slice (some ⟨E.w.heap.size,0,none⟩) n.toNat m.toNat) (arr:=madeCells z.cells (m.toNat*inf.size)) (by simp[execOp,ho,h1,h2,hr]) ?_
      have hlen:=ZO z.cells.toList n.toNat
      have hzl:z.cells.toList.length=inf.size:=by rw[Array.length_toList];exact hzs
      refine .own [0,d] inf.size _ E.w.heap.size 0 n.toNat m.toNat _ e (fun k=>z.cells[k%z.cells.size]!) Ja (.of ZU) ⟨hsz,by rw[hlen,hzl]⟩ (by omega) (by simp[maxLen];omega) (by rw[size_madeCells];simp) (fun k A hk=>?_) fun k A hk=>?_
      · obtain⟨hlt,_,_⟩:=Zu hk
        rw[hzl] at hlt
        have:k<m.toNat*inf.size:=Nat.lt_of_lt_of_le hlt (Nat.mul_le_mul_right _ (by omega))
        simp[madeCells,this]
      · obtain⟨hlt,hz',rfl⟩:=Zu hk
        have e:z.cells[k%z.cells.size]! =z.cells.toList[k%z.cells.toList.length]:=by
          have:k%z.cells.size<z.cells.size:=by simpa using hz'
          simp[this]
        rw[e]
        exact .sc _ _
    · cases h
  · cases h
def kE (st:zb)(d:Nat)(l c:zm)(sz bs:Nat)(zs:List Value):Option zb:=
 match st.dec l,st.dec c with
 |some n,some m=>if 0≤n∧n≤m∧bs*m.toNat≤140737488355328∧m≤9223372036854775807 then some (zb.putT {st with h:=st.h++[some (zv zs m.toNat)]} d (.sl st.h.length 0 n.toNat sz)) else none
 |_,_=>none
theorem GB (R:zi E N V st a.tmps)(F:zo N V st d){t e:TypeId}{inf:TypeInfo}{z:Value}{l c:Operand}{ol oc:zm}(ho:o.op= .makeSlice t l c)(hu:P.underlying t=some (.slice e))(hi:P.info? e=some inf)
    (hz:inf.zero=some z) (hzs:z.cells.size=inf.size) (hsz:0<inf.size) (hl:zd l=some ol) (hc:zd c=some oc) {st':zb} (h:kE st d ol oc inf.size inf.bytes z.cells.toList=some st'):Jj L E N V st' a P o d:=by
  unfold kE at h
  split at h
  · rename_i n m hn hm
    obtain⟨kl,h1⟩:=Ji R hl hn
    obtain⟨kc,h2⟩:=Ji R hc hm
    split at h
    · rename_i hcond
      obtain⟨h0,hnm,hb,h63⟩:=hcond
      cases h
      have hbytes:(inf.bytes:Int)*m≤281474976710656:=by
        have e:m=((m.toNat:Nat):Int):=by omega
        rw[e,←Int.natCast_mul];omega
      have hr:=run_make (P:=P) E.w t e inf z hu hi hz kl kc n m h0 hnm hbytes h63
      let obj:Obj:= .cells (madeCells z.cells (m.toNat*inf.size)) e
      have hlen:=ZO z.cells.toList m.toNat
      have hzl:z.cells.toList.length=inf.size:=by rw[Array.length_toList];exact hzs
      let E1:=E.fresh obj [9,0]
      have R1:zi E1 N V st a.tmps:=R.flight (j:=0) (ks:=[]) (jl R.lim obj [9,0]) (qF R.lim obj [9,0]) rfl
      have R2:=R1.more E.w.heap.size 0 (m.toNat*inf.size)
      have R3:=R2.land (j:=0) [1,E.n]
      have hne:E1.n=E.n:=rfl
      have hO3:((E1.more E.w.heap.size 0 (m.toNat*inf.size)).relab [9,0] [1,E.n]).O E.w.heap.size=some [1,E.n]:=by
        have:(E1.more E.w.heap.size 0 (m.toNat*inf.size)).O E.w.heap.size=some ([9,0]++[]):=by
          show E1.O E.w.heap.size=_
          exact Ja
        have:=jo (q:=[1,E.n]) this
        rw[List.append_nil] at this
        exact this
      have hρ:((E1.more E.w.heap.size 0 (m.toNat*inf.size)).relab [9,0] [1,E.n]).ρ E.n=E.w.heap.size:=by
        show(if E.n=E1.n then E.w.heap.size else E1.ρ E.n)=_
        rw[hne,if_pos rfl]
      have hβ:((E1.more E.w.heap.size 0 (m.toNat*inf.size)).relab [9,0] [1,E.n]).β E.n=0:=by
        show(if E.n=E1.n then 0 else E1.β E.n)=_
        rw[hne,if_pos rfl]
      have hκ:((E1.more E.w.heap.size 0 (m.toNat*inf.size)).relab [9,0] [1,E.n]).κ E.n=m.toNat*inf.size:=by
        show(if E.n=E1.n then m.toNat*inf.size else E1.κ E.n)=_
        rw[hne,if_pos rfl]
      have hOR:JU ((E1.more E.w.heap.size 0 (m.toNat*inf.size)).relab [9,0] [1,E.n]) E.n (zv z.cells.toList m.toNat):=by
        refine⟨by rw[hρ];exact hO3,madeCells z.cells (m.toNat*inf.size),e,fun k=>z.cells[k%z.cells.size]!,?_,?_,?_,?_,?_⟩
        · rw[hρ];exact Jw.of (ZU (ℓ:=[9,0]))
        · rw[hβ,hκ,size_madeCells];simp
        · rw[hκ,hlen,hzl];exact Nat.le_refl _
        · intro k A hk
          obtain⟨hlt,_,_⟩:=Zu hk
          rw[hzl] at hlt
          rw[hβ]
          simp[madeCells,hlt]
        · intro k A hk
          obtain⟨hlt,hz',rfl⟩:=Zu hk
          have e:z.cells[k%z.cells.size]! =z.cells.toList[k%z.cells.toList.length]:=by
            have:k%z.cells.size<z.cells.size:=by simpa using hz'
            simp[this]
          show VRel _ _ _ (z.cells[k%z.cells.size]!)
          rw[e]
          exact .sc _ _
      have hnum:st.h.length=E.n:=R.num.symm
      have R4:=R3.revive (id:=E.n) (cs:=zv z.cells.toList m.toNat) (h':=st.h++[some (zv z.cells.toList m.toNat)]) (by simp) (by rw[List.getElem?_append_right (by omega)];simp[hnum])
        (fun j hj=>by
          show _=(st.h++[none])[j]?
          rw[List.getElem?_append,List.getElem?_append]
          split
          · rfl
          · rename_i hge
            have:1≤j - st.h.length:=by omega
            rw[List.getElem?_eq_none (by simpa using this),List.getElem?_eq_none (by simpa using this)])
        (by
          show(st.h++[none])[E.n]?=_
          rw[List.getElem?_append_right (by omega)];simp[hnum]) hOR
      have hv:VRel ((E1.more E.w.heap.size 0 (m.toNat*inf.size)).relab [9,0] [1,E.n]) (some [0,d]) (.sl st.h.length 0 n.toNat inf.size) (.slice (some ⟨E.w.heap.size,0,none⟩) n.toNat m.toNat):=by
        have:=VRel.sl (E:=(E1.more E.w.heap.size 0 (m.toNat*inf.size)).relab [9,0] [1,E.n]) (some [0,d]) E.n 0 n.toNat m.toNat inf.size (Nat.lt_succ_self _) (by omega) (by simp[maxLen];omega) (by rw[hκ];omega)
        rw[hρ,hβ] at this
        rw[hnum];exact this
      exact⟨_,_,by simp[execOp,ho,h1,h2,hr];rfl,R4.putT_val F.lt F.v F.t hv,(JI R.lim obj (z6 _)).trans (wu.trans (zk (z6 _) (Ye _) (zN (by decide) _)))⟩
    · cases h
  · cases h
theorem ZC {p:List Nat}{B:za}:(st.setAt p B).ts.map (·.1)=st.ts.map (·.1):=by
 match p with
 |0::i::ks=>simp only[zb.setAt];exact(zb.set_keys _ _ _).2.1
 | 1::id::k::ks=>
   simp only[zb.setAt]
   split<;>rfl
 |[]=>rfl
 |[0]=>rfl
 |[1]=>rfl
 |[1,_]=>rfl
 |(n+2)::_=>simp only[zb.setAt]
theorem z1 {bad:za→Bool}:(st.kill bad).ts.map (·.1)=st.ts.map (·.1):=by simp only[zb.kill,ZZ]
theorem ju {i:Nat}{A:za}:(st.assign i A).ts.map (·.1)=st.ts.map (·.1):=by
 unfold zb.assign
 exact(zb.set_keys _ _ _).2.1.trans z1
theorem zP {ox:zm}{mv:Bool}{A:za}{st1:zb}(h:st.use ox mv=some (A,st1)):st1.ts.map (·.1)=st.ts.map (·.1):=by
 unfold zb.use at h
 rcases zE h with⟨_,h⟩|⟨_,h⟩
 · cases h;rfl
 · split at h
   · cases h;exact ju
   · cases h;exact ju
   · cases h;exact ju
   · cases h;exact ju
   · split at h
     · rcases zE h with⟨_,h⟩|⟨_,h⟩<;>cases h<;>exact ZC.trans z1
     · cases h
   · split at h
     · cases h;exact ZC.trans z1
     · cases h
   · cases h
theorem zo.of {st1:zb}(F:zo N V st d)(h:st1.ts.map (·.1)=st.ts.map (·.1)):zo N V st1 d:=⟨F.lt,F.v,by rw[h];exact F.t⟩
theorem Z9 {po:Option (List Nat)}{A:za}{v:Value}(h:VRel E po A v)(hc:A.cellOk=true):v.cells= #[v]∧A.cells=[A]:=by
 have h1:=h.oneCell hc
 constructor
 · cases v<;>first
    |rfl
    |cases h1
 · cases A<;>first
    |rfl
    |cases hc
theorem VRel.cells {p:List Nat}{A:za}{v:Value}(h:VRel E (some p) A v)(hc:A.cellOk=true∨∃cs,A= .agg cs):
    v.cells.size=A.cells.length∧∀(k:Nat) B,A.cells[k]?=some B→∃u,v.cells[k]?=some u∧VRel E (some (match A with| .agg _=>p++[k]|_=>p)) B u:=by
  rcases hc with hc|⟨cs,rfl⟩
  · obtain⟨h1,h2⟩:=Z9 h hc
    rw[h1,h2]
    refine⟨rfl,fun k B hk=>?_⟩
    cases k with
    | zero=>
      cases hk
      refine⟨v,rfl,?_⟩
      cases A<;>first
        |exact h
        |cases hc
    |succ k=>cases hk
  · cases h with
    | agg _ _ vs hs hh=>
      refine⟨hs,fun k B hk=>?_⟩
      have hlt:k<vs.size:=by rw[hs];exact(List.getElem?_eq_some_iff.1 hk).1
      exact⟨vs[k],Array.getElem?_eq_getElem hlt,hh k B _ hk (Array.getElem?_eq_getElem hlt)⟩
def kH (st:zb)(d:Nat)(x:zm):Option zb:=
 match st.use x true with
 |some (.agg cs,st1)=>some (st1.putT d (.own none cs))
 |some (A,st1)=>bif A.cellOk then some (st1.putT d (.own none [A])) else none
 |none=>none
theorem GE (R:zi E N V st a.tmps)(F:zo N V st d){t:TypeId}{x:Operand}{ox:zm}(ho:o.op= .box t x)(hx:zd x=some ox){st':zb}(h:kH st d ox=some st')(hq:st.useQ L ox true=true):Jj L E N V st' a P o d:=by
 unfold kH at h
 have hrun:∀w:World,(execOp a.eval o).run P w= .ok (.value (.pointer (some ⟨w.heap.size,0,none⟩))) (w.alloc (.cells (a.eval x).cells t)):=fun w=>by
  simp[execOp,ho,Instr.box,newVar,newRow]
 split at h
 · rename_i cs st1 hu
   cases h
   obtain⟨E1,R1,F1,P1,hw⟩:=Zv R hx hu 0 (l:=[]) (fun x hx=>by cases hx) (fun x hx=>by cases hx) hq
   have hv:=(F1 _ (List.mem_cons_self ..)).land [0,d]
   have R2:=R1.land [0,d] (j:=0)
   obtain⟨h1,h2⟩:=hv.cells (.inr ⟨cs,rfl⟩)
   have hw2:(E1.relab [9,0] [0,d]).w=E.w:=hw
   obtain⟨v,E3,hr3,R3,P3⟩:=QN (P:=P) (o:=o) (A:= .own none cs) R2 (F.of (zP hu)) (T:=t) (arr:=(a.eval x).cells) (hrun _)
    (.box [0,d] cs (E1.relab [9,0] [0,d]).w.heap.size (a.eval x).cells t (fun k=>(a.eval x).cells.getD k undef) Ja (.of ZU) h1
     (fun k A hk=>by obtain⟨u,hu,_⟩:=h2 k A hk;simp[Array.getD,(Array.getElem?_eq_some_iff.1 hu).1,(Array.getElem?_eq_some_iff.1 hu).2])
     (fun k A hk=>by
      obtain⟨u,hu,hr⟩:=h2 k A hk
      have e:(a.eval x).cells.getD k undef=u:=by simp[Array.getD,(Array.getElem?_eq_some_iff.1 hu).1,(Array.getElem?_eq_some_iff.1 hu).2]
      rw[e]
      exact hr.fresh_keep R2.lim _ _))
   refine⟨v,E3,?_,R3,(P1.trans (zk (z6 _) (jp _ _) (zN (by decide) _))).trans P3⟩
   rw[hw2] at hr3
   exact hr3
 · rename_i A st1 _ hu
   rcases zE h with⟨hc,h⟩|⟨_,h⟩
   · cases h
     obtain⟨E1,R1,F1,P1,hw⟩:=Zv R hx hu 0 (l:=[]) (fun x hx=>by cases hx) (fun x hx=>by cases hx) hq
     have hv:=(F1 _ (List.mem_cons_self ..)).land [0,d,0]
     have R2:=R1.land [0,d,0] (j:=0)
     have hcells:=(Z9 hv hc).1
     have hw2:(E1.relab [9,0] [0,d,0]).w=E.w:=hw
     obtain⟨v,E3,hr3,R3,P3⟩:=QN (P:=P) (o:=o) (A:= .own none [A]) R2 (F.of (zP hu)) (T:=t) (arr:=(a.eval x).cells) (hrun _)
      (.box [0,d] [A] (E1.relab [9,0] [0,d,0]).w.heap.size (a.eval x).cells t (fun _=>a.eval x) Ja (.of ZU) (by rw[hcells];rfl)
       (fun k B hk=>by
        rw[hcells]
        cases k with
        |zero=>rfl
        |succ k=>cases hk)
       (fun k B hk=>by
        cases k with
        |zero=>cases hk;exact hv.fresh_keep R2.lim _ _
        |succ k=>cases hk))
     refine⟨v,E3,?_,R3,(P1.trans (zk (z6 _) (jp _ _) (zN (by decide) _))).trans P3⟩
     rw[hw2] at hr3
     exact hr3
   · cases h
 · cases h
def YZ (st:zb)(d:Nat)(zs:List Value):Option zb:=some (st.putT d (.own none (zs.map .sc)))
theorem KF (R:zi E N V st a.tmps)(F:zo N V st d){t:TypeId}{inf:TypeInfo}{z:Value}(ho:o.op= .alloc t)(hi:P.info? t=some inf)(hz:inf.zero=some z){st':zb}(h:YZ st d z.cells.toList=some st'):Jj L E N V st' a P o d:=by
 cases h
 refine QN (P:=P) (o:=o) R F (T:=t) (arr:=z.cells) (v:= .pointer (some ⟨E.w.heap.size,0,none⟩)) (by simp[execOp,ho,Instr.alloc,zeroValue,typeInfo,hi,hz,newVar,newRow]) ?_
 refine .box [0,d] _ E.w.heap.size z.cells t (fun k=>z.cells.getD k undef) Ja (.of ZU) (by simp) (fun k A hk=>?_) fun k A hk=>?_
 · have hlt:k<z.cells.size:=by simpa using (List.getElem?_eq_some_iff.1 hk).1
   simp[hlt]
 · have hlt:k<z.cells.size:=by simpa using (List.getElem?_eq_some_iff.1 hk).1
   rw[List.getElem?_map] at hk
   have e:z.cells.toList[k]?=some z.cells[k]:=by simp[hlt]
   rw[e] at hk
   cases hk
   have e2:z.cells.getD k undef=z.cells[k]:=by simp[hlt]
   rw[e2]
   exact .sc _ _
end
end Go.Ga

namespace Go.Ga
open Go
def za.aggCopy :za→Bool
 | .agg cs=>za.copyableL cs
 |_=>false
def wJ (cells:List za):List (Nat×Nat×za)→Option (List za)
 |[]=>some cells
 | (off,size,A)::rest=>
   if A.cells.length=size∧off+size≤cells.length∧(A.cellOk||A.aggCopy)=true then wJ (cells.take off++A.cells++cells.drop (off+size)) rest else none
def zb.useL (st:zb):List (zm×Bool)→Option (List za×zb)
 |[]=>some ([],st)
 | (x,mv)::rest=>match st.use x mv with
   | some (A,st1)=>match st1.useL rest with
     |some (As,st2)=>some (A::As,st2)
     |none=>none
   |none=>none
def zb.useLQ (L:List (List Nat))(st:zb):List (zm×Bool)→Bool
 |[]=>true
 | (x,mv)::rest=>st.useQ L x mv&&match st.use x mv with
   |some (_,st1)=>st1.useLQ L rest
   |none=>true
theorem wj :∀(xs:List (zm×Bool)) {st:zb},st.useLQ [] xs=true
 |[],_=>rfl
 | (x,mv)::rest,st=>by
   unfold zb.useLQ
   rw[J1,Bool.true_and]
   split
   · exact wj rest
   · rfl
section
variable {L:List (List Nat)} {E:Env} {N:Nat} {V:List Nat} {st:zb} {a:Act} {P:Program} {o:Oper} {d:Nat}
theorem Zj :∀(xs:List (zm×Bool)) {st st1:zb} {As:List za},st.useL xs=some (As,st1)→st1.ts.map (·.1)=st.ts.map (·.1)
 |[],st,st1,As,h=>by cases h;rfl
 | (x, mv)::rest,st,st1,As,h=>by
   unfold zb.useL at h
   split at h
   · rename_i A st2 hu
     split at h
     · rename_i As' st3 hr
       cases h
       exact(Zj rest hr).trans (zP hu)
     · cases h
   · cases h
theorem jH :∀(xs:List Operand) (os:List (zm×Bool)) {E:Env} {st st1:zb} {As:List za} (j:Nat) {l:List (Nat×za×Value)},xs.map zd=os.map (fun y=>some y.1)→zi E N V st a.tmps→st.useL os=some (As,st1)→st.useLQ L os=true→
    Xr E l→(∀y∈l,y.1<j)→∃E1,zi E1 N V st1 a.tmps∧Xr E1 l∧As.length=xs.length∧(∀(k:Nat) A x,As[k]?=some A→xs[k]?=some x→VRel E1 (some [9,j+k]) A (a.eval x))∧zy L E E1∧E1.w=E.w
  | [],[],E,st,st1,As,j,l,_,R,h,_,Fl,_=>by
    cases h
    exact⟨E,R,Fl,rfl,fun k A x hA=>by simp at hA,zy.refl E,rfl⟩
  |[],y::os,E,st,st1,As,j,l,hm,R,h,_,Fl,_=>by simp at hm
  |x::xs,[],E,st,st1,As,j,l,hm,R,h,_,Fl,_=>by simp at hm
  | x ::xs,(ox,mv)::os,E,st,st1,As,j,l,hm,R,h,hq,Fl,hj=>by
    simp only[zb.useLQ,Bool.and_eq_true] at hq
    obtain⟨hq1,hq2⟩:=hq
    simp only[List.map_cons,List.cons.injEq] at hm
    unfold zb.useL at h
    split at h
    · rename_i A st2 hu
      split at h
      · rename_i As' st3 hr
        cases h
        rw[hu] at hq2
        obtain⟨E1,R1,F1,P1,hw1⟩:=Zv R hm.1 hu j Fl (fun y hy=>Nat.ne_of_lt (hj y hy)) hq1
        obtain⟨E2,R2,F2,hlen,hv,P2,hw2⟩:=jH xs os (j+1) hm.2 R1 hr hq2 F1 (fun y hy=>by
          cases hy with
          |head=>exact Nat.lt_succ_self j
          |tail _ hy=>exact Nat.lt_succ_of_lt (hj y hy))
        refine⟨E2,R2,fun y hy=>F2 y (.tail _ hy),by simp[hlen],fun k B x' hB hx'=>?_,P1.trans P2,hw2.trans hw1⟩
        cases k with
        | zero=>
          simp at hB hx'
          subst hB hx'
          exact F2 _ (.head _)
        | succ k=>
          simp at hB hx'
          have:=hv k B x' hB hx'
          rwa [show j+(k+1)=j+1+k by omega]
      · cases h
    · cases h
def Y0 (E:Env)(p:List Nat)(cs:List za)(arr:Array Value):Prop:=
 arr.size=cs.length∧∀(k:Nat) A u,cs[k]?=some A→arr[k]?=some u→VRel E (some (p++[k])) A u
theorem Yw (off:Nat):∀(l:List Value) (j:Nat) (arr:Array Value) (k:Nat),off+j+l.length≤arr.size→
    ((l.zipIdx j).foldl (fun cs (x:Value×Nat)=>cs.setIfInBounds (off+x.2) x.1) arr).size=arr.size∧
    ((l.zipIdx j).foldl (fun cs (x:Value×Nat)=>cs.setIfInBounds (off+x.2) x.1) arr)[k]?=if off+j≤k∧k<off+j+l.length then l[k - (off+j)]? else arr[k]?
  | [],j,arr,k,_=>by
    refine⟨rfl,?_⟩
    rw[if_neg (by simp)];rfl
  | v ::l,j,arr,k,h=>by
    simp only[List.zipIdx_cons,List.foldl_cons]
    obtain⟨h1,h2⟩:=Yw off l (j+1) (arr.setIfInBounds (off+j) v) k (by simp at h⊢;omega)
    refine⟨by rw[h1];simp,?_⟩
    rw[h2]
    simp at h
    by_cases hk:k=off+j
    · subst hk
      have hlt:off+j<arr.size:=by omega
      rw[if_neg (by omega),if_pos ⟨by omega,by simp⟩]
      simp[hlt]
    · by_cases hin:off+j≤k∧k<off+j+(v::l).length
      · rw[if_pos hin,if_pos (by simp at hin⊢;omega)]
        have e:k - (off+j)=(k - (off+(j+1)))+1:=by omega
        rw[e];rfl
      · rw[if_neg hin,if_neg (by simp at hin⊢;omega),Array.getElem?_setIfInBounds_ne (Ne.symm hk)]
theorem Y0.under {p q:List Nat}{E':Env}{cs:List za}{arr:Array Value}(h:Y0 E p cs arr)(U:zM q E E')(hq:ZN q p):Y0 E' p cs arr:=
 ⟨h.1,fun k A u h1 h2=>U.keep (h.2 k A u h1 h2) fun ℓ e=>by
  cases e
  refine⟨hq.under (List.prefix_append p [k]),fun hx=>?_⟩
  exact hq.2 ((List.prefix_append p [k]).trans hx)⟩
theorem Y0.lay {p:List Nat}{cs:List za}{arr:Array Value}(h:Y0 E p cs arr){off:Nat}{As:List za}{vs:Array Value}(hs:vs.size=As.length)(hle:off+As.length≤cs.length)
    (hv:∀(j:Nat) A u,As[j]?=some A→vs[j]?=some u→VRel E (some (p++[off+j])) A u):
    Y0 E p (cs.take off++As++cs.drop (off+As.length)) (vs.zipIdx.foldl (fun cs (x:Value×Nat)=>cs.setIfInBounds (off+x.2) x.1) arr):=by
  have key:=fun k=>Yw off vs.toList 0 arr k (by simp[h.1,hs];omega)
  have e:vs.zipIdx.foldl (fun cs (x:Value×Nat)=>cs.setIfInBounds (off+x.2) x.1) arr=(vs.toList.zipIdx 0).foldl (fun cs (x:Value×Nat)=>cs.setIfInBounds (off+x.2) x.1) arr:=by
    rw[←Array.foldl_toList];simp
  rw[e]
  refine⟨?_,fun k A u hA hu=>?_⟩
  · rw[(key 0).1,h.1];simp;omega
  · rw[(key k).2] at hu
    simp only[Nat.add_zero,Array.length_toList] at hu
    split at hu
    · rename_i hk
      have hA':As[k - off]?=some A:=by
        rw[List.append_assoc,List.getElem?_append_right (by simp;omega)] at hA
        have e2:k - (cs.take off).length=k - off:=by simp;omega
        rw[e2,List.getElem?_append_left (by omega)] at hA
        exact hA
      have:=hv (k - off) A u hA' (by simpa using hu)
      rwa [show off+(k - off)=k by omega] at this
    · rename_i hk
      refine h.2 k A u ?_ hu
      by_cases hk':k<off
      · rw[List.append_assoc,List.getElem?_append_left (by simp;omega),List.getElem?_take_of_lt hk'] at hA
        exact hA
      · rw[List.getElem?_append_right (by simp;omega)] at hA
        rw[List.getElem?_drop] at hA
        simp at hA
        rw[show off+As.length+(k - (min off cs.length+As.length))=k by omega] at hA
        exact hA
theorem Qg (place:Nat→Option (Nat×Nat)):∀(parts:List (Nat×Nat×za)) (vals:List (Nat×Value)) (j:Nat) {E:Env} {cs cs':List za} {arr:Array Value},zi E N V st a.tmps→Y0 E [0,d] cs arr→parts.length=vals.length→
    (∀(k:Nat) y x,parts[k]?=some y→vals[k]?=some x→place x.1=some (y.1,y.2.1)∧VRel E (some [9,j+k]) y.2.2 x.2)→wJ cs parts=some cs'→
    ∃E' arr',zi E' N V st a.tmps∧Y0 E' [0,d] cs' arr'∧Instr.fill place arr vals=some arr'∧zy L E E'∧E'.w=E.w
  |[],[],j,E,cs,cs',arr,R,C,_,_,h=>by cases h;exact⟨E,arr,R,C,rfl,zy.refl E,rfl⟩
  |[],_::_,j,E,cs,cs',arr,R,C,hl,_,h=>by simp at hl
  |_::_,[],j,E,cs,cs',arr,R,C,hl,_,h=>by simp at hl
  | (off, size,A)::parts,(i,v)::vals,j,E,cs,cs',arr,R,C,hl,hv,h=>by
    simp only[wJ] at h
    split at h
    · rename_i hcond
      obtain⟨hsz,hle,hok⟩:=hcond
      subst hsz
      obtain⟨hp,hr⟩:=hv 0 (off,A.cells.length,A) (i,v) rfl rfl
      simp only[Nat.add_zero] at hp hr
      have R1:=R.land [0,d,off] (j:=j)
      have U:=zI (E:=E) [9,j] [0,d,off]
      have C1:Y0 (E.relab [9,j] [0,d,off]) [0,d] cs arr:=C.under U (zl (by decide))
      have hr1:=hr.land [0,d,off]
      have hlay:v.cells.size=A.cells.length∧∀(k:Nat) B u,A.cells[k]?=some B→v.cells[k]?=some u→VRel (E.relab [9,j] [0,d,off]) (some ([0,d]++[off+k])) B u:=by
        by_cases hc:A.cellOk=true
        · obtain⟨h1,h2⟩:=Z9 hr1 hc
          rw[h1,h2]
          refine⟨rfl,fun k B u hB hu=>?_⟩
          cases k with
          |zero=>cases hB;cases hu;exact hr1
          |succ k=>cases hB
        · have hcp:A.aggCopy=true:=by simpa[hc] using hok
          cases A with
          | agg cs0=>
            cases hr1 with
            |agg _ _ vs hs hh=>exact⟨hs,fun k B u hB hu=>(hh k B u hB hu).copy _ (zC hcp hB)⟩
          |_=>cases hcp
      have C2:=C1.lay (off:=off) hlay.1 hle hlay.2
      obtain⟨E',arr',R',C',hf,P',hw⟩:=Qg place parts vals (j+1) R1 C2 (by simpa using hl) (fun k y x hy hx=>by
        obtain⟨h1,h2⟩:=hv (k+1) y x (by simpa using hy) (by simpa using hx)
        refine⟨h1,?_⟩
        rw[show j+1+k=j+(k+1) by omega]
        exact U.keep h2 fun ℓ e=>by cases e;exact kA (by omega)) h
      refine⟨E',arr',R',C',?_,(zk (z6 _) (jp _ _) (zN (by decide) _)).trans P',hw⟩
      simp only[Instr.fill,hp]
      have hsz:=hlay.1
      have hb:off+v.cells.size≤arr.size:=by rw[hsz,C.1];exact hle
      simp only[hsz]
      have hnot:¬(arr.size<off+A.cells.length):=by omega
      simp only[Array.size_zipIdx] at hf
      simp[hnot]
      simpa using hf
    · cases h
end
end Go.Ga

namespace Go.Ga
open Go
section
variable {L:List (List Nat)} {E:Env} {N:Nat} {V:List Nat} {st:zb} {a:Act} {P:Program} {o:Oper} {d:Nat}
def Zi :List (Nat×Nat)→List za→List (Nat×Nat×za)
 |(off,sz)::ps,A::As=>(off,sz,A)::Zi ps As
 |_,_=>[]
theorem Jx :∀(ps:List (Nat×Nat)) (As:List za),ps.length=As.length→(Zi ps As).length=As.length
 |[],[],_=>rfl
 |[],_::_,h=>by simp at h
 |_::_,[],h=>by simp at h
 |_::ps,_::As,h=>by simp[Zi,Jx ps As (by simpa using h)]
theorem Jy :∀(ps:List (Nat×Nat)) (As:List za) (k:Nat) y,(Zi ps As)[k]?=some y→ps[k]?=some (y.1,y.2.1)∧As[k]?=some y.2.2
 |[],_,k,y,h=>by simp[Zi] at h
 |_::_,[],k,y,h=>by simp[Zi] at h
 |(off,sz)::ps,A::As,0,y,h=>by simp[Zi] at h;subst h;simp
 |_::ps,_::As,k+1,y,h=>by simp[Zi] at h;simpa using Jy ps As k y h
def kI (st:zb)(d:Nat)(parts:List ((Nat×Nat)×zm×Bool))(zs:List Value):Option zb:=
 match st.useL (parts.map (·.2)) with
 | some (As,st1)=>match wJ (zs.map .sc) (Zi (parts.map (·.1)) As) with
   |some cs=>some (st1.putT d (.agg cs))
   |none=>none
 |none=>none
theorem UW {z:Array Value}{p:List Nat}:Y0 E p (z.toList.map .sc) z:=by
 refine⟨by simp,fun k A u hA hu=>?_⟩
 rw[List.getElem?_map] at hA
 have hz:z.toList[k]?=some u:=by simpa using hu
 rw[hz] at hA
 cases hA
 exact .sc _ u
def ZR (P:Program)(t:TypeId)(i:Nat):Option (Nat×Nat):=
 match P.underlying t with
 |some (.array _ e)=>(P.info? e).map fun ie=>(i*ie.size,ie.size)
 | some (.struct fields)=>match fields.toList.mapM (fun f=>(P.info? f.type).map fun i=>(f.offset,i.size)) with
   |some places=>places[i]?
   |none=>none
 |_=>none
theorem ku {t:TypeId}{it:TypeInfo}{z:Value}(hit:P.info? t=some it)(hz:it.zero=some z){vals:List (Nat×Value)}{arr:Array Value}
    (hg:(match P.underlying t with|some (.array _ e)=>(P.info? e).isSome|some (.struct fields)=>(fields.toList.mapM (fun f=>(P.info? f.type).map fun i=>(f.offset,i.size))).isSome|_=>false)=true)
    (h:Instr.fill (ZR P t) z.cells vals=some arr):P.built t vals=some arr:=by
  unfold Program.built
  rw[hit]
  cases hu:P.underlying t with
  |none=>rw[hu] at hg;cases hg
  | some dsc=>
    rw[hu] at hg
    have hpl:∀i,ZR P t i=_:=fun i=>rfl
    cases dsc<;>simp only[] at hg<;>try (cases hg;done)
    · rename_i n e
      obtain⟨ie,hie⟩:=Option.isSome_iff_exists.1 hg
      simp only[hz,hie]
      have:ZR P t=fun i=>some (i*ie.size,ie.size):=by funext i;simp[ZR,hu,hie]
      rwa [this] at h
    · rename_i fields
      obtain⟨pl,hpl⟩:=Option.isSome_iff_exists.1 hg
      simp only[hz,hpl]
      have:ZR P t=fun i=>pl.toArray[i]?:=by funext i;simp[ZR,hu,hpl]
      rwa [this] at h
theorem GF (R :zi E N V st a.tmps)(F:zo N V st d){t:TypeId}{it:TypeInfo}{z:Value}{parts:Array (Nat×Operand)}{ops:List ((Nat×Nat)×zm×Bool)}(ho:o.op= .build t parts)(hit:P.info? t=some it)(hz:it.zero=some z)
    (hg:(match P.underlying t with|some (.array _ e)=>(P.info? e).isSome|some (.struct fields)=>(fields.toList.mapM (fun f=>(P.info? f.type).map fun i=>(f.offset,i.size))).isSome|_=>false)=true)
    (hx:(parts.toList.map (·.2)).map zd=(ops.map (·.2)).map (fun y=>some y.1)) (hpl:parts.toList.map (fun x=>ZR P t x.1)=ops.map (fun y=>some y.1)) {st':zb} (h:kI st d ops z.cells.toList=some st') (hq:st.useLQ L (ops.map (·.2))=true):Jj L E N V st' a P o d:=by
  unfold kI at h
  split at h
  · rename_i As st1 hu
    split at h
    · rename_i cs hf
      cases h
      obtain⟨E1,R1,_,hlen,hv,P1,hw1⟩:=jH (parts.toList.map (·.2)) (ops.map (·.2)) 0 hx R hu hq (l:=[]) (fun x hx=>by cases hx) (fun y hy=>by cases hy)
      have hlp:parts.toList.length=ops.length:=by simpa using congrArg List.length hpl
      have hla:As.length=ops.length:=by rw[hlen];simpa using hlp
      obtain ⟨E2,arr,R2,C2,hfill,P2,hw2⟩:=Qg (d:=d) (ZR P t) (Zi (ops.map (·.1)) As) (parts.toList.map fun x=>(x.1,a.eval x.2)) 0 (cs:=z.cells.toList.map .sc) (arr:=z.cells) R1 UW
        (by rw[Jx _ _ (by simp[hla])];simp;rw[hla,←hlp];simp) (fun k y x hy hx'=>by
          obtain⟨h1,h2⟩:=Jy _ _ k y hy
          rw[List.getElem?_map] at hx'
          cases hk:parts.toList[k]? with
          |none=>rw[hk] at hx';cases hx'
          | some pt=>
            rw[hk] at hx'
            cases hx'
            have e1:(parts.toList.map fun x=>ZR P t x.1)[k]?=some (ZR P t pt.1):=by rw[List.getElem?_map,hk];rfl
            have e2:(ops.map fun y=>some y.1)[k]?=some (some (y.1,y.2.1)):=by
              rw[List.getElem?_map] at h1⊢
              cases ho':ops[k]? with
              |none=>rw[ho'] at h1;cases h1
              |some q=>rw[ho'] at h1;simp at h1;simp[h1]
            rw[hpl,e2] at e1
            refine⟨(Option.some.inj e1).symm,?_⟩
            have e3:(parts.toList.map (·.2))[k]?=some pt.2:=by rw[List.getElem?_map,hk];rfl
            have:=hv k _ _ h2 e3
            simpa using this) hf
      have hb:P.built t (parts.toList.map fun x=>(x.1,a.eval x.2))=some arr:=ku hit hz hg hfill
      have hw:E2.w=E.w:=hw2.trans hw1
      refine⟨.agg arr,E2,?_,R2.putT_val F.lt F.v (F.of (Zj _ hu)).t (.agg _ _ _ C2.1 C2.2),P1.trans P2⟩
      have:=run_build (P:=P) E.w t (parts.map fun(i,x)=>(i,a.eval x)) arr (by simpa using hb)
      rw[hw]
      simp[execOp,ho,this]
    · cases h
  · cases h
def Xo (st:zb)(d len sz:Nat)(parts:List ((Nat×Nat)×zm×Bool))(zs:List Value):Option zb:=
 match st.useL (parts.map (·.2)) with
 | some (As,st1)=>match wJ (zv zs len) (Zi (parts.map (·.1)) As) with
   |some cs=>if cs.length=len*sz∧len*sz≤16777216 then some (st1.putT d (.own (some sz) cs)) else none
   |none=>none
 |none=>none
theorem um {z:Array Value}{n:Nat}{p:List Nat}:Y0 E p (zv z.toList n) (madeCells z (n*z.size)):=by
 refine⟨by rw[size_madeCells,ZO];simp,fun k A u hA hu=>?_⟩
 obtain⟨hlt,hz,rfl⟩:=Zu hA
 have hlt':k<n*z.size:=by simpa using hlt
 have hz':k%z.size<z.size:=by simpa using hz
 have:(madeCells z (n*z.size))[k]?=some z[k%z.size]:=by simp[madeCells,hlt',hz']
 rw[this] at hu
 cases hu
 have e:z.toList[k%z.toList.length]=z[k%z.size]:=by simp
 rw[e]
 exact .sc _ _
theorem gX (R :zi E N V st a.tmps)(F:zo N V st d){t e:TypeId}{ie:TypeInfo}{z:Value}{len:Nat}{parts:Array (Nat×Operand)}{ops:List ((Nat×Nat)×zm×Bool)}(ho:o.op= .buildSlice t len parts)(hu':P.underlying t=some (.slice e))(hie:P.info? e=some ie)(hz:ie.zero=some z)
    (hzs:z.cells.size=ie.size) (hsz:0<ie.size) (hx:(parts.toList.map (·.2)).map zd=(ops.map (·.2)).map (fun y=>some y.1)) (hpl:parts.toList.map (fun x=>(x.1*ie.size,ie.size))=ops.map (·.1)) {st':zb} (h:Xo st d len ie.size ops z.cells.toList=some st') (hq:st.useLQ L (ops.map (·.2))=true):Jj L E N V st' a P o d:=by
  unfold Xo at h
  split at h
  · rename_i As st1 hu
    split at h
    · rename_i cs hf
      split at h
      · rename_i hcl
        cases h
        obtain⟨E1,R1,_,hlen,hv,P1,hw1⟩:=jH (parts.toList.map (·.2)) (ops.map (·.2)) 0 hx R hu hq (l:=[]) (fun x hx=>by cases hx) (fun y hy=>by cases hy)
        have hlp:parts.toList.length=ops.length:=by simpa using congrArg List.length hpl
        have hla:As.length=ops.length:=by rw[hlen];simpa using hlp
        obtain⟨E2,arr,R2,C2,hfill,P2,hw2⟩:=Qg (d:=d) (fun i=>some (i*ie.size,ie.size)) (Zi (ops.map (·.1)) As) (parts.toList.map fun x=>(x.1,a.eval x.2)) 0 (cs:=zv z.cells.toList len) (arr:=madeCells z.cells (len*z.cells.size)) R1 um
          (by rw[Jx _ _ (by simp[hla])];simp;rw[hla,←hlp];simp) (fun k y x hy hx'=>by
            obtain⟨h1,h2⟩:=Jy _ _ k y hy
            rw[List.getElem?_map] at hx'
            cases hk:parts.toList[k]? with
            |none=>rw[hk] at hx';cases hx'
            | some pt=>
              rw[hk] at hx'
              cases hx'
              have e1:(parts.toList.map fun x=>(x.1*ie.size,ie.size))[k]?=some (pt.1*ie.size,ie.size):=by rw[List.getElem?_map,hk];rfl
              rw[hpl,h1] at e1
              refine⟨e1.symm,?_⟩
              have e3:(parts.toList.map (·.2))[k]?=some pt.2:=by rw[List.getElem?_map,hk];rfl
              have:=hv k _ _ h2 e3
              simpa using this) hf
        have hw:E2.w=E.w:=hw2.trans hw1
        have hfill':Instr.fill (fun i=>some (i*ie.size,ie.size)) (madeCells z.cells (len*ie.size)) (parts.map fun(i,x)=>(i,a.eval x)).toList=some arr:=by
          rw[←hzs];simpa[hzs] using hfill
        have hrun:∀w:World,(Instr.buildSlice t len (parts.map fun(i,x)=>(i,a.eval x))).run P w= .ok (.slice (some ⟨w.heap.size,0,none⟩) len len) (w.alloc (.cells arr e)):=fun w=>by
          have hno:¬(16777216<len*ie.size):=by omega
          by_cases h0:len*ie.size=0
          · have hfill0:=hfill'
            rw[h0] at hfill0
            have e0:(Array.range 0).map (fun _=>(default:Value))=madeCells z.cells 0:=by simp[madeCells]
            simp[Instr.buildSlice,run_underlying hu',sizeOf,typeInfo,hie,h0,newRow]
            rw[e0,show(Instr.fill (fun i=>some (i*ie.size,ie.size)) (madeCells z.cells 0) (parts.toList.map fun x=>(x.1,a.eval x.2)))=some arr by simpa using hfill0]
            simp
          · have e1:(Array.range (len*ie.size)).map (fun x=>z.cells[x%z.cells.size]!)=madeCells z.cells (len*ie.size):=rfl
            simp[Instr.buildSlice,run_underlying hu',sizeOf,typeInfo,hie,h0,hno,zeroValue,hz,newRow]
            rw[e1,show(Instr.fill (fun i=>some (i*ie.size,ie.size)) (madeCells z.cells (len*ie.size)) (parts.toList.map fun x=>(x.1,a.eval x.2)))=some arr by simpa using hfill']
            simp
        obtain⟨v,E3,hr3,R3,P3⟩:=QN (P:=P) (o:=o) (A:= .own (some ie.size) cs) R2 (F.of (Zj _ hu)) (T:=e) (arr:=arr) (v:= .slice (some ⟨E2.w.heap.size,0,none⟩) len len) (by simp[execOp,ho,hrun])
          (.own [0,d] ie.size cs E2.w.heap.size 0 len len arr e (fun k=>arr.getD k undef) Ja (.of ZU) ⟨hsz,hcl.1⟩ (Nat.le_refl _) (by simp[maxLen];have:=Nat.le_mul_of_pos_right len hsz;omega) (by rw[C2.1,hcl.1];simp)
            (fun k A hk=>by
              have hlt:k<arr.size:=by rw[C2.1];exact(List.getElem?_eq_some_iff.1 hk).1
              simp[hlt])
            (fun k A hk=>by
              have hlt:k<arr.size:=by rw[C2.1];exact(List.getElem?_eq_some_iff.1 hk).1
              have e:arr.getD k undef=arr[k]:=by simp[hlt]
              rw[e]
              exact(C2.2 k A _ hk (Array.getElem?_eq_getElem hlt)).fresh_keep R2.lim _ _))
        refine⟨v,E3,?_,R3,(P1.trans P2).trans P3⟩
        rw[hw] at hr3
        exact hr3
      · cases h
    · cases h
  · cases h
def Xm (st:zb)(d:Nat)(f:Fn)(first captured:List (zm×Bool)):Option zb:=
 match st.useL (first++captured) with
 |some (As,st1)=>bif za.copyableL As then some (st1.putT d (.fn f (As.take first.length) (As.drop first.length))) else none
 |none=>none
theorem gU (R:zi E N V st a.tmps)(F:zo N V st d){f:Fn}{first captured:Array Operand}{o1 o2:List (zm×Bool)}(ho:o.op= .makeFunc f first captured)(h1:first.toList.map zd=o1.map (fun y=>some y.1))(h2:captured.toList.map zd=o2.map (fun y=>some y.1))
    {st':zb} (h:Xm st d f o1 o2=some st') (hq:st.useLQ L (o1++o2)=true):Jj L E N V st' a P o d:=by
  unfold Xm at h
  split at h
  · rename_i As st1 hu
    rcases zE h with⟨hc,h⟩|⟨_,h⟩
    · cases h
      obtain⟨E1,R1,_,hlen,hv,P1,hw1⟩:=jH (first.toList++captured.toList) (o1++o2) 0 (by simp[h1,h2]) R hu hq (l:=[]) (fun x hx=>by cases hx) (fun y hy=>by cases hy)
      have hl1:first.size=o1.length:=by simpa using congrArg List.length h1
      have hl2:captured.size=o2.length:=by simpa using congrArg List.length h2
      have hla:As.length=o1.length+o2.length:=by rw[hlen];simp[hl1,hl2]
      refine⟨.func f (first.map a.eval) (captured.map a.eval),E1,by rw[hw1];simp[execOp,ho,Instr.makeFunc],R1.putT_val F.lt F.v (F.of (Zj _ hu)).t ?_,P1⟩
      refine .fn _ f _ _ _ _ (by simp[hl1,hla]) (by simp[hl2,hla]) (fun k A v hA hv'=>?_) fun k A v hA hv'=>?_
      · rw[List.getElem?_take] at hA
        split at hA
        · rename_i hk
          rw[Array.getElem?_map] at hv'
          cases hx:first[k]? with
          |none=>rw[hx] at hv';cases hv'
          | some x=>
            rw[hx] at hv'
            cases hv'
            have e:(first.toList++captured.toList)[k]?=some x:=by rw[List.getElem?_append_left (by simpa[hl1] using hk)];simpa using hx
            exact(hv k A x hA e).copy _ (zC hc hA)
        · cases hA
      · rw[List.getElem?_drop] at hA
        rw[Array.getElem?_map] at hv'
        cases hx:captured[k]? with
        |none=>rw[hx] at hv';cases hv'
        | some x=>
          rw[hx] at hv'
          cases hv'
          have e:(first.toList++captured.toList)[o1.length+k]?=some x:=by
            rw[List.getElem?_append_right (by simp[hl1])]
            simp[hl1]
            simpa using hx
          exact(hv _ A x hA e).copy _ (zC hc hA)
    · cases h
  · cases h
end
end Go.Ga

namespace Go.Ga
open Go
def za.inObj (id:Nat):za→Bool
 | .at_ (1::j::_)=>j==id
 | .addr (1::j::_) _=>j==id
 |_=>false
def zK (cs:List za)(k:Nat):List za→List za
 |[A]=>cs.set k A
 |As=>cs.take k++As++cs.drop (k+As.length)
theorem yl (cs:List za)(k:Nat)(As:List za)(h:k+As.length≤cs.length):zK cs k As=cs.take k++As++cs.drop (k+As.length):=by
 unfold zK
 split
 · rename_i A
   rw[List.set_eq_take_append_cons_drop]
   simp at h
   rw[if_pos (by omega)]
   simp
 · rfl
def zb.storeObj (st:zb)(id:Nat)(cs:List za):zb:=
 let st1:=st.kill (za.inObj id)
 {st1 with h:=st1.h.set id (some cs)}
section
variable {L:List (List Nat)} {E:Env} {N:Nat} {V:List Nat} {st:zb} {a:Act} {P:Program} {o:Oper} {d:Nat} {tm:Array Value}
theorem Yl {id:Nat}{A:za}(h:A.isAlias=false):A.inObj id=false:=by
 cases A<;>simp[za.isAlias] at h<;>rfl
theorem zi.obj (R:zi E N V st tm){id:Nat}{cs cs':List za}{E':Env}(hcs:st.h[id]?=some (some cs))(U:zM [1,id] E E')(hlim:∀b q,E'.O b=some q→b<E'.w.heap.size)(hn:E'.n=E.n)(hO:JU E' id cs'):
    zi E' N V (st.storeObj id cs') tm:=by
  have hna:∀A:za,A.isAlias=false→A.inObj id=false:=fun A h=>Yl h
  have R1:=R.kill hna
  have hidl:id<st.h.length:=(List.getElem?_eq_some_iff.1 hcs).1
  have hlive:∀i q,((st.kill (za.inObj id)).get i= .at_ q∨∃k,(st.kill (za.inObj id)).get i= .addr q k)→∀ks,q≠1::id::ks:=by
    intro i q hq ks e
    subst e
    have hb:∀A,(st.kill (za.inObj id)).get i=A→A≠ .dead→A.inObj id=false:=by
      intro A hA hd
      rw[zb.get_kill] at hA
      cases hx:(st.get i).inObj id with
      |true=>rw[hx] at hA;exact absurd hA.symm hd
      |false=>rw[hx] at hA;simp only[cond_false] at hA;rw[←hA];exact hx
    rcases hq with hq|⟨k,hq⟩
    · have:=hb _ hq (by simp);simp[za.inObj] at this
    · have:=hb _ hq (by simp);simp[za.inObj] at this
  have hat:∀q B,(∀ks,q≠1::id::ks)→(st.kill (za.inObj id)).at q=some B→(st.storeObj id cs').at q=some B:=by
    intro q B hq hB
    match q,hB,hq with
    |0::i::ks,hB,_=>exact hB
    | 1::j::k::ks,hB,hq=>
      have hj:id≠j:=fun e=>hq _ (by rw[e])
      simp only[zb.at,zb.storeObj] at hB⊢
      rw[List.getElem?_set_ne hj]
      exact hB
  refine⟨R1.size,R1.keys,by rw[hn,R.num];simp[zb.storeObj,zb.kill],R1.disj,hlim,R1.roots,fun i=>?_,fun j cs0 hj=>?_⟩
  · show Zt E' (st.storeObj id cs') tm i ((st.kill (za.inObj id)).get i)
    refine Zt.carry (R1.slots i) rfl (fun v _ h=>U.keep h fun ℓ e=>by cases e;exact zl (by decide)) fun q hq B hB hA=>?_
    have hqn:=hlive i q hq
    refine⟨⟨B,hat q B hqn hB,hA,fun hd cs e=>⟨hd,cs,e⟩⟩,?_⟩
    match q,hB,hqn with
    | 0 ::j::ks,hB,_=>
      cases ks with
      |nil=>simp[zr,zF]
      | cons k ks=>
        rw[zB] at hB
        obtain⟨v,hv,hr⟩:=(R1.slots j).out (za.sub_cons_nonalias hB)
        simp only[zr,hv]
        exact VRel.way (ℓ:=[0,j]) U (k::ks) (fun⟨hx,_⟩=>(zl (by decide)).1 hx) hr hB
    | 1 ::j::k::ks,hB,hqn=>
      have hj:id≠j:=fun e=>hqn _ (by rw[e])
      simp only[zb.at] at hB
      split at hB
      · rename_i cs1 hcs1
        obtain⟨hO1,arr,T,f,hb,ha,hl,hf,hv⟩:=R1.objs j cs1 hcs1
        have hid:j<E.n:=by rw[R1.num];exact(List.getElem?_eq_some_iff.1 hcs1).1
        obtain⟨e1,e2,e3⟩:=U.ids.2 j hid
        have hap:ZN [1,id] [1,j]:=yc hj
        obtain⟨_,hb'⟩:=U.else_ _ _ hO1 hap.1
        simp only[za.sub,za.kids] at hB
        cases hk:cs1[k]? with
        |none=>simp[hk] at hB
        | some D=>
          simp only[hk] at hB
          simp only[zr,Env.ptr,zF,e1,e2,hb.cell,(hb.keep hb').cell,hf k D hk]
          exact VRel.way (ℓ:=[1,j]++[k]) U ks (fun⟨hx,_⟩=>hap.under ((List.prefix_append [1,j] [k]).trans (List.prefix_append _ ks)) hx) (hv k D hk) hB
      · cases hB
  · have hj':(st.h.set id (some cs'))[j]?=some (some cs0):=hj
    rw[List.getElem?_set] at hj'
    by_cases hjj:id=j
    · subst hjj
      simp[hidl] at hj'
      subst hj'
      exact hO
    · simp only[hjj,if_false] at hj'
      have hid:j<E.n:=by rw[R.num];exact(List.getElem?_eq_some_iff.1 hj').1
      exact(R.objs j cs0 hj').keep U hid (yc hjj)
def Env.row (E:Env)(b:Nat)(arr:Array Value):Env:={E with w:=E.w.setRow b arr}
theorem Jo {b b':Nat}{arr:Array Value}(h:b'≠b):(E.row b arr).w.heap[b']?=E.w.heap[b']?:=setRow_other E.w b b' arr h
theorem jg {b:Nat}{arr:Array Value}{p:List Nat}(hO:E.O b=some p):zM p E (E.row b arr) where
 size:=by simp[Env.row]
 ids:=⟨Nat.le_refl _,fun _ _=>⟨rfl,rfl,rfl⟩⟩
 none_ b' hb' _:=⟨hb',Jo fun e=>by rw[e,hO] at hb';cases hb'⟩
 else_ b' q hq hp:=⟨hq,Jo fun e=>by rw[e,hO] at hq;cases hq;exact hp (List.prefix_refl _)⟩
theorem qE {b:Nat}{arr:Array Value}(hl:∀b q,E.O b=some q→b<E.w.heap.size):∀b' q,(E.row b arr).O b'=some q→b'<(E.row b arr).w.heap.size:=by
 intro b' q h
 simp only[Env.row,setRow_size]
 exact hl b' q h
theorem Jp {b:Nat}{arr:Array Value}{p:List Nat}(hO:E.O b=some p)(hm:qe p)(hw:¬kL L p):zy L E (E.row b arr) where
 size:=by simp[Env.row]
 os:=rfl
 tape:=rfl
 output:=rfl
 old:=(jg hO).none_
 far b' r hb':=⟨hb',Jo fun e=>by rw[e,hO] at hb';exact jO hm (List.prefix_refl _) r (Option.some.inj hb')⟩
 farB _ _ h:=h
 ids:=⟨Nat.le_refl _,fun _ _=>⟨rfl,rfl,rfl⟩⟩
 keep b' r hr hb' _:=⟨.inl hb',Jo fun e=>by rw[e,hO] at hb';cases hb';exact hw hr⟩
theorem VRel.rowKeep {b:Nat}{arr:Array Value}{p:List Nat}(hO:E.O b=some p){k:Nat}{A:za}{v:Value}(h:VRel E (some (p++[k])) A v):VRel (E.row b arr) (some (p++[k])) A v:=
 VRel.keep (E:=E) (E':=E.row b arr) ⟨Nat.le_refl _,fun _ _=>⟨rfl,rfl,rfl⟩⟩ (by simp[Env.row]) h fun b' hb'=>⟨rfl,Jo fun e=>by
  subst e
  rcases hb' with hb'|⟨ℓ,q,hℓ,hq,hpre⟩
  · rw[hO] at hb';cases hb'.1
  · rw[hO] at hq;cases hq;cases hℓ;exact J8 (k:=k) (ks:=[]) hpre⟩
theorem JB {α:Type}{l m r:List α}{k:Nat}:(l++m++r)[k]?=if k<l.length then l[k]? else if k<l.length+m.length then m[k - l.length]? else r[k - l.length - m.length]?:=by
 rw[List.append_assoc,List.getElem?_append]
 split
 · rfl
 · rename_i h1
   rw[List.getElem?_append]
   split
   · rename_i h2;rw[if_pos (by omega)]
   · rename_i h2;rw[if_neg (by omega)]
theorem qy {arr:Array Value}{vs:List Value}{s:Nat}(h:s+vs.length≤arr.size)(k:Nat):(arr.toList.take s++vs++arr.toList.drop (s+vs.length)).toArray[k]?=if s≤k∧k<s+vs.length then vs[k - s]? else arr[k]?:=by
 rw[List.getElem?_toArray,JB]
 have hl:(arr.toList.take s).length=s:=by simp;omega
 rw[hl]
 by_cases h1:k<s
 · rw[if_pos h1,if_neg (by omega),List.getElem?_take_of_lt h1];simp
 · rw[if_neg h1]
   by_cases h2:k<s+vs.length
   · rw[if_pos h2,if_pos (by omega)]
   · rw[if_neg h2,if_neg (by omega),List.getElem?_drop,show s+vs.length+(k - s - vs.length)=k by omega];simp
theorem Jn {arr:Array Value}{vs:List Value}{s:Nat}(h:s+vs.length≤arr.size):(arr.toList.take s++vs++arr.toList.drop (s+vs.length)).toArray.size=arr.size:=by
 simp;omega
theorem jB {cs As:List za}{k:Nat}(h:k+As.length≤cs.length)(j:Nat):(zK cs k As)[j]?=if k≤j∧j<k+As.length then As[j - k]? else cs[j]?:=by
 rw[yl cs k As h,JB]
 have hl:(cs.take k).length=k:=by simp;omega
 rw[hl]
 by_cases h1:j<k
 · rw[if_pos h1,if_neg (by omega),List.getElem?_take_of_lt h1]
 · rw[if_neg h1]
   by_cases h2:j<k+As.length
   · rw[if_pos h2,if_pos (by omega)]
   · rw[if_neg h2,if_neg (by omega),List.getElem?_drop,show k+As.length+(j - k - As.length)=j by omega]
theorem zR {cs As:List za}{k:Nat}(h:k+As.length≤cs.length):(zK cs k As).length=cs.length:=by
 rw[yl cs k As h];simp;omega
def za.isAgg :za→Bool
 | .agg _=>true
 |_=>false
def GH (st:zb)(x v:zm)(n:Nat):Option zb:=
 match st.use v true with
 | some (A,st1)=>
   if A.cells.length=n∧za.cellOkL A.cells=true∧(A.cellOk||A.isAgg)=true then
    match st1.evA x with
    | .addr p k=>match st1.at p with
      |some (.own hd cs)=>if k+n≤cs.length then some ((st1.kill (za.under p true)).setAt p (.own hd (zK cs k A.cells))) else none
      |_=>none
    | .ptr id k=>match st1.h[id]? with
      |some (some cs)=>if k+n≤cs.length then some (st1.storeObj id (zK cs k A.cells)) else none
      |_=>none
    |_=>none
   else none
 |none=>none
def zb.stQ (L:List (List Nat))(st:zb)(x v:zm):Bool:=
 st.useQ L v true&&match st.use v true with
  | some (_,st1)=>match st1.evA x with
    | .addr p _=> !L.contains p
    | .ptr id _=> !L.contains [1,id]
    |_=>true
  |none=>true
theorem k9 {st:zb}{x v:zm}:st.stQ [] x v=true:=by
 unfold zb.stQ
 rw[J1,Bool.true_and]
 split
 · split<;>rfl
 · rfl
theorem jM {L:List (List Nat)}{p:List Nat}(h:(!L.contains p)=true):¬kL L p:=fun hp=>by
 have:L.contains p=true:=List.contains_iff_mem.2 hp.1
 rw[this] at h;cases h
theorem Jw.set {w:World}{b:Nat}{arr arr':Array Value}{T:TypeId}(h:Jw w b arr T)(hs:arr'.size=arr.size):Jw (w.setRow b arr') b arr' T:=by
 obtain⟨fz,h1,h2⟩:=h
 exact⟨fz,setRow_heap w b arr arr' T fz h1,by rw[hs];exact h2⟩
theorem Z4 {P:Program}(g o:Nat)(t:TypeId):∀(vs:List Value) (i:Nat) (cur:Array Value) (w:World),Jw w g cur t→o+i+vs.length≤cur.size→(∀v∈vs,v.oneCell'=true)→
    (storeCells ⟨g,o,none⟩ vs i).run P w= .ok () (w.setRow g (cur.toList.take (o+i)++vs++cur.toList.drop (o+i+vs.length)).toArray)
  | [],i,cur,w,hg,_,_=>by
    obtain⟨fz,hg,_⟩:=hg
    simp only[storeCells,List.append_nil,List.length_nil,Nat.add_zero,List.take_append_drop,Array.toArray_toList]
    rw[setRow_self w g cur t fz hg]
    rfl
  | v ::rest,i,cur,w,hg,hl,h1=>by
    have hi:o+i<cur.size:=by simp at hl;omega
    have hadd:(⟨g,o,none⟩:Addr).add i=⟨g,o+i,none⟩:=Addr.add_lit ..
    have ih:=Z4 (P:=P) g o t rest (i+1) (cur.setIfInBounds (o+i) v) (w.setRow g (cur.setIfInBounds (o+i) v)) (hg.set (by simp)) (by simp at hl⊢;omega) (fun x hx=>h1 x (by simp[hx]))
    have hfro:=hg.thaw hi
    obtain⟨fz,hg,hz⟩:=hg
    have hcell:w.cell? ⟨g,o+i,none⟩=some cur[o+i]:=by simp[World.cell?,hg,hi]
    have hst:(store ((⟨g,o,none⟩:Addr).add i) v).run P w= .ok () (w.setRow g (cur.setIfInBounds (o+i) v)):=by
      rw[hadd,run_store P w _ v _ (h1 v (by simp)),hcell]
      simp[hfro,setCell_eq_setRow w g (o+i) cur t fz v hg]
    simp only[storeCells,Sem.run_bind,hst,Result.andThen_ok,ih,setRow_setRow]
    congr 3
    have e:=list_seg_step cur.toList (o+i) v rest (by simp at hl⊢;omega)
    simpa[Array.toList_setIfInBounds,Nat.add_assoc] using e
theorem ym {t:TypeId}{inf:TypeInfo}(hi:P.info? t=some inf){v:Value}(hs:v.cells.size=inf.size){b k:Nat}{arr:Array Value}{T:TypeId}{w:World}(hb:Jw w b arr T)(hfit:k+v.cells.toList.length≤arr.size)
    (h1:∀u∈v.cells.toList,u.oneCell'=true):(Instr.storeAt t (.pointer (some ⟨b,k,none⟩)) v).run P w= .ok () (w.setRow b (arr.toList.take k++v.cells.toList++arr.toList.drop (k+v.cells.toList.length)).toArray):=by
  have:=Z4 (P:=P) b k T v.cells.toList 0 arr w hb (by simpa using hfit) h1
  simp only[Nat.add_zero] at this
  have hne:¬v.cells.size≠inf.size:=by simp[hs]
  simp[Instr.storeAt,Instr.sureAddr,storeVar,sizeOf,typeInfo,hi,hs,this]
def g0 (L:List (List Nat))(E:Env)(N:Nat)(V:List Nat)(st':zb)(a:Act)(P:Program)(o:Oper):Prop:=
 ∃E',(execOp a.eval o).run P E.w= .ok .skip E'.w∧zi E' N V st' a.tmps∧zy L E E'
theorem zM.wk {p q:List Nat}{E E':Env}(h:q<+:p)(U:zM p E E'):zM q E E':=
 ⟨U.size,U.ids,U.none_,fun b r hb hn=>U.else_ b r hb fun hp=>hn (h.trans hp)⟩
theorem zM.tr {p:List Nat}{E E1 E2:Env}(U:zM p E E1)(U1:zM p E1 E2):zM p E E2 where
 size:=Nat.le_trans U.size U1.size
 ids:=⟨Nat.le_trans U.ids.1 U1.ids.1,fun id h=>by
  obtain⟨a,b,c⟩:=U.ids.2 id h
  obtain⟨a',b',c'⟩:=U1.ids.2 id (Nat.lt_of_lt_of_le h U.ids.1)
  exact⟨a'.trans a,b'.trans b,c'.trans c⟩⟩
 none_ b hb hs:=by
  obtain⟨h1,h2⟩:=U.none_ b hb hs
  obtain⟨h3,h4⟩:=U1.none_ b h1 (Nat.lt_of_lt_of_le hs U.size)
  exact⟨h3,h4.trans h2⟩
 else_ b q hb hn:=by
  obtain⟨h1,h2⟩:=U.else_ b q hb hn
  obtain⟨h3,h4⟩:=U1.else_ b q h1 hn
  exact⟨h3,h4.trans h2⟩
theorem xl {E1:Env}{st1:zb}{tm:Array Value}(R1:zi E1 N V st1 tm){cs:List za}{vs:Array Value}(hh:∀(j:Nat) B u,cs[j]?=some B→vs[j]?=some u→VRel E1 (some ([9,0]++[j])) B u){p:List Nat}(hp:∀k,qe (p++[k]))(h9:∀r,ZN [9,0] (p++r))(k:Nat):∀m:Nat,
    ∃E2,zi E2 N V st1 tm∧E2.w=E1.w∧zy L E1 E2∧E2.n=E1.n∧zM [9,0] E1 E2∧∀(j:Nat) B u,cs[j]?=some B→vs[j]?=some u→VRel E2 (some (if j<m then p++[k+j] else [9,0]++[j])) B u
  |0=>⟨E1,R1,rfl,zy.refl E1,rfl,⟨Nat.le_refl _,E1.ids_refl,fun _ h _=>⟨h,rfl⟩,fun _ _ h _=>⟨h,rfl⟩⟩,fun j B u hB hu=>by simpa using hh j B u hB hu⟩
  | m + 1=>by
    obtain⟨E2,R2,hw,hP,hn,U,hv⟩:=xl R1 hh hp h9 k m
    have U2:zM ([9,0]++[m]) E2 (E2.relab ([9,0]++[m]) (p++[k+m])):=zI _ _
    refine⟨E2.relab ([9,0]++[m]) (p++[k+m]),R2.flight U2 (Zx R2.lim) rfl,hw,hP.trans (zk (z6 _) (hp _) (zN (by decide) _)),hn,U.tr (U2.wk (List.prefix_append _ _)),fun j B u hB hu=>?_⟩
    have h:=hv j B u hB hu
    rcases Nat.lt_trichotomy j m with h1|h1|h1
    · rw[if_pos h1] at h
      rw[if_pos (by omega)]
      refine h.aside _ _ fun ℓ e=>?_
      cases e
      have ha:=h9 [k+j]
      exact⟨fun hx=>ha.1 ((List.prefix_append _ _).trans hx),fun hx=>by
        rcases List.prefix_or_prefix_of_prefix hx (List.prefix_append [9,0] [m]) with h|h
        · exact ha.2 h
        · exact ha.1 h⟩
    · subst h1
      rw[if_neg (Nat.lt_irrefl _)] at h
      rw[if_pos (Nat.lt_succ_self _)]
      have:=(h.moved ([9,0]++[j]) (p++[k+j]) []).2 (by rw[List.append_nil])
      rwa [List.append_nil] at this
    · rw[if_neg (by omega)] at h
      rw[if_neg (by omega)]
      exact h.aside _ _ fun ℓ e=>by cases e;exact yb (fun e=>by omega) []
theorem Yj {E1:Env}{st1:zb}{tm:Array Value}(R1:zi E1 N V st1 tm){A:za}{v:Value}(hA:VRel E1 (some [9,0]) A v)(hcc:(A.cellOk||A.isAgg)=true){p:List Nat}(hp:∀k,qe (p++[k]))(h9:∀r,ZN [9,0] (p++r))(k:Nat):
    ∃E2,zi E2 N V st1 tm∧E2.w=E1.w∧zy L E1 E2∧E2.n=E1.n∧zM [9,0] E1 E2∧∀(j:Nat) B u,A.cells[j]?=some B→v.cells[j]?=some u→VRel E2 (some (p++[k+j])) B u:=by
  by_cases hc:A.cellOk=true
  · refine⟨E1.relab [9,0] (p++[k]),R1.land _,rfl,zk (z6 _) (hp k) (zN (by decide) _),rfl,zI _ _,fun j B u hB hu=>?_⟩
    obtain⟨h1,h2⟩:=Z9 hA hc
    rw[h2] at hB
    rw[h1] at hu
    cases j with
    |zero=>cases hB;cases hu;exact hA.land _
    |succ j=>cases hB
  · have hag:A.isAgg=true:=by simpa[hc] using hcc
    cases A with
    | agg cs=>
      cases hA with
      | agg _ _ vs hs hh=>
        obtain⟨E2,R2,hw,hP,hn,U,hv⟩:=xl (L:=L) R1 (p:=p) (cs:=cs) (vs:=vs) (fun j B u hB hu=>hh j B u hB hu) hp h9 k cs.length
        refine⟨E2,R2,hw,hP,hn,U,fun j B u hB hu=>?_⟩
        have:=hv j B u hB hu
        have hlt:j<cs.length:=(List.getElem?_eq_some_iff.1 hB).1
        rwa [if_pos hlt] at this
    |_=>cases hag
theorem UY {A:za}{v:Value}{po:Option (List Nat)}(hA:VRel E po A v)(hok:za.cellOkL A.cells=true)(hcc:(A.cellOk||A.isAgg)=true):v.cells.size=A.cells.length∧∀u∈v.cells.toList,u.oneCell'=true:=by
 by_cases hc:A.cellOk=true
 · obtain⟨h1,h2⟩:=Z9 hA hc
   rw[h1,h2]
   refine⟨rfl,fun u hu=>?_⟩
   simp at hu
   subst hu
   exact hA.oneCell hc
 · have hag:A.isAgg=true:=by simpa[hc] using hcc
   cases A with
   | agg cs=>
     cases hA with
     | agg _ _ vs hs hh=>
       refine⟨hs,fun u hu=>?_⟩
       obtain⟨j,hj⟩:=List.mem_iff_getElem?.1 hu
       have hlt:j<cs.length:=by rw[←hs];simpa[Value.cells] using (List.getElem?_eq_some_iff.1 hj).1
       exact(hh j _ u (List.getElem?_eq_getElem hlt) (by simpa[Value.cells] using hj)).oneCell (Jc hok (List.getElem?_eq_getElem hlt))
   |_=>cases hag
theorem GS (R : zi E N V st a.tmps){t:TypeId}{inf:TypeInfo}{x v:Operand}{ox ov:zm}(ho:o.op= .store t x v)(hi:P.info? t=some inf)(hx:zd x=some ox)(hv:zd v=some ov){st':zb}(h:GH st ox ov inf.size=some st')(hq:st.stQ L ox ov=true):g0 L E N V st' a P o:=by
  unfold GH at h
  split at h
  · rename_i A st1 hu
    split at h
    · rename_i hcond
      obtain⟨hlen,hok,hcc⟩:=hcond
      simp only[zb.stQ,Bool.and_eq_true] at hq
      obtain⟨hq1,hq2⟩:=hq
      rw[hu] at hq2
      simp only[] at hq2
      obtain⟨E1,R1,F1,P1,hw1⟩:=Zv R hv hu 0 (l:=[]) (fun x hx=>by cases hx) (fun x hx=>by cases hx) hq1
      have hA:VRel E1 (some [9,0]) A (a.eval v):=F1 _ (List.mem_cons_self ..)
      obtain⟨hsz,hone⟩:=UY hA hok hcc
      have hsz':(a.eval v).cells.toList.length=A.cells.length:=by rw[Array.length_toList];exact hsz
      have hinf:(a.eval v).cells.size=inf.size:=hsz.trans hlen
      split at h
      · rename_i p k hxa
        split at h
        · rename_i hd cs hat
          split at h
          · rename_i hle
            cases h
            rw[←hlen] at hle
            have hp:=zq hat
            obtain⟨E2,R2,hw2,P2,hn2,U2,hcells⟩:=Yj R1 hA hcc (p:=p) (fun k=>by cases hp<;>exact⟨by simp,by simp⟩) (fun r=>by cases hp<;>exact zl (by decide)) k
            obtain⟨hd',cs',u,b,o',h1,h2,h3,h4,h5⟩:=jP R2 hx hxa
            rw[hat] at h1
            cases h1
            have hrow:∃arr T,E2.O b=some p∧Jw E2.w b arr T∧o'+cs.length≤arr.size∧(∀k A,cs[k]?=some A→∃u,arr[o'+k]?=some u∧VRel E2 (some (p++[k])) A u)∧
                ∀ arr':Array Value,arr'.size=arr.size→(∀k A,(zK cs k A.cells)[k]?=some A→True)→∀cs2:List za,cs2.length=cs.length→(∀k A,cs2[k]?=some A→∃u,arr'[o'+k]?=some u∧VRel (E2.row b arr') (some (p++[k])) A u)→
                  VRel (E2.row b arr') (some p) (.own hd cs2) u:=by
              cases h5 with
              | own _ sz _ b' o'' len cap arr T f hO hb hl hc hm ha hf hh=>
                obtain⟨rfl,rfl⟩:b=b'∧o'=o'':=by cases h3;exact⟨rfl,rfl⟩
                refine⟨arr,T,hO,hb,?_,fun k A hk=>⟨f k,hf k A hk,hh k A hk⟩,fun arr' hs' _ cs2 hl2 hcs2=>?_⟩
                · refine Nat.le_trans ?_ ha;rw[hl.2];exact Nat.add_le_add_left (Nat.mul_le_mul_right _ hc) _
                · refine .own p sz cs2 _ _ len cap arr' T (fun k=>arr'.getD (o'+k) undef) hO (hb.set hs') ⟨hl.1,hl2.trans hl.2⟩ hc hm (by rw[hs'];exact ha) (fun k A hk=>?_) fun k A hk=>?_
                  · obtain⟨u,hu,_⟩:=hcs2 k A hk
                    simp[Array.getD,(Array.getElem?_eq_some_iff.1 hu).1]
                  · obtain⟨u,hu,hr⟩:=hcs2 k A hk
                    have e:arr'.getD (o'+k) undef=u:=by simp[Array.getD,(Array.getElem?_eq_some_iff.1 hu).1,(Array.getElem?_eq_some_iff.1 hu).2]
                    rw[e];exact hr
              |ownNil=>cases h3
              | box _ _ b' arr T f hO hb ha hf hh=>
                obtain⟨rfl,rfl⟩:b=b'∧o'=0:=by cases h3;exact⟨rfl,rfl⟩
                refine⟨arr,T,hO,hb,by omega,fun k A hk=>⟨f k,by rw[Nat.zero_add];exact hf k A hk,hh k A hk⟩,fun arr' hs' _ cs2 hl2 hcs2=>?_⟩
                refine .box p cs2 _ arr' T (fun k=>arr'.getD k undef) hO (hb.set hs') (by omega) (fun k A hk=>?_) fun k A hk=>?_
                · obtain⟨u,hu,_⟩:=hcs2 k A hk
                  rw[Nat.zero_add] at hu
                  simp[Array.getD,(Array.getElem?_eq_some_iff.1 hu).1]
                · obtain⟨u,hu,hr⟩:=hcs2 k A hk
                  rw[Nat.zero_add] at hu
                  have e:arr'.getD k undef=u:=by simp[Array.getD,(Array.getElem?_eq_some_iff.1 hu).1,(Array.getElem?_eq_some_iff.1 hu).2]
                  rw[e];exact hr
            obtain⟨arr,T,hO,hb,hfit,hold,hnew⟩:=hrow
            have hfit':o'+k+(a.eval v).cells.toList.length≤arr.size:=by rw[hsz'];omega
            let arr':=(arr.toList.take (o'+k)++(a.eval v).cells.toList++arr.toList.drop (o'+k+(a.eval v).cells.toList.length)).toArray
            have hs':arr'.size=arr.size:=Jn hfit'
            have hrun:=ym (P:=P) hi hinf (b:=b) (k:=o'+k) hb hfit' hone
            have hv2:VRel (E2.row b arr') (some p) (.own hd (zK cs k A.cells)) u:=by
              refine hnew arr' hs' (fun _ _ _=>trivial) _ (zR hle) fun j B hj=>?_
              rw[jB hle] at hj
              have hg:=qy (arr:=arr) (vs:=(a.eval v).cells.toList) hfit' (o'+j)
              split at hj
              · rename_i hjk
                rw[if_pos (by omega)] at hg
                have hlt:j - k<(a.eval v).cells.toList.length:=by omega
                rw[show o'+j - (o'+k)=j - k by omega,List.getElem?_eq_getElem hlt] at hg
                refine⟨_,hg,?_⟩
                have:=hcells (j - k) B _ hj (by rw[←Array.getElem?_toList];exact List.getElem?_eq_getElem hlt)
                rw[show k+(j - k)=j by omega] at this
                exact this.rowKeep hO
              · rename_i hjk
                rw[if_neg (by omega)] at hg
                obtain⟨w,hw,hr⟩:=hold j B hj
                exact⟨w,hg.trans hw,hr.rowKeep hO⟩
            have R3:=R2.turn (E':=E2.row b arr') (B':= .own hd (zK cs k A.cells)) (keep:=true) hat rfl (fun _=>⟨_,_,rfl⟩) (jg hO) (qE R2.lim) rfl h2 hv2
            refine⟨E2.row b arr',?_,R3,(P1.trans P2).trans (Jp hO (Zo hp) (jM (by rw[hxa] at hq2;exact hq2)))⟩
            rw[←hw1,←hw2]
            simp only[execOp,ho,h4,Sem.run_bind,hrun]
            rfl
          · cases h
        · cases h
      · rename_i id k hxa
        split at h
        · rename_i cs hcs
          split at h
          · rename_i hle
            cases h
            rw[←hlen] at hle
            obtain⟨E2,R2,hw2,P2,hn2,U2,hcells⟩:=Yj R1 hA hcc (p:=[1,id]) (fun k=>Ye _) (fun r=>zl (by decide)) k
            obtain⟨x',po,h1,h2,_⟩:=zj R2 hx (zO hxa rfl) rfl
            cases h2 with
            | ptr _ _ _ hn=>
              obtain⟨hO,arr,T,f,hb,ha,hl,hf,hold⟩:=R2.objs id cs hcs
              have hfit':E2.β id+k+(a.eval v).cells.toList.length≤arr.size:=by rw[hsz'];omega
              let arr':=(arr.toList.take (E2.β id+k)++(a.eval v).cells.toList++arr.toList.drop (E2.β id+k+(a.eval v).cells.toList.length)).toArray
              have hs':arr'.size=arr.size:=Jn hfit'
              have hrun:=ym (P:=P) hi hinf (b:=E2.ρ id) (k:=E2.β id+k) hb hfit' hone
              have hOR:JU (E2.row (E2.ρ id) arr') id (zK cs k A.cells):=by
                refine⟨hO,arr',T,fun j=>arr'.getD (E2.β id+j) undef,hb.set hs',by rw[hs'];exact ha,by rw[zR hle];exact hl,fun j B hj=>?_,fun j B hj=>?_⟩
                · have hlt:j<cs.length:=by rw[←zR hle];exact(List.getElem?_eq_some_iff.1 hj).1
                  have:E2.β id+j<arr'.size:=by rw[hs'];omega
                  show arr'[E2.β id+j]?=some (arr'.getD (E2.β id+j) undef)
                  simp[Array.getD,this]
                · have hlt:j<cs.length:=by rw[←zR hle];exact(List.getElem?_eq_some_iff.1 hj).1
                  have hlt2:E2.β id+j<arr'.size:=by rw[hs'];omega
                  have hg:=qy (arr:=arr) (vs:=(a.eval v).cells.toList) hfit' (E2.β id+j)
                  have hgd:∀u,arr'[E2.β id+j]?=some u→arr'.getD (E2.β id+j) undef=u:=fun u hu=>by simp[Array.getD,hlt2,(Array.getElem?_eq_some_iff.1 hu).2]
                  show VRel (E2.row (E2.ρ id) arr') (some ([1,id]++[j])) B (arr'.getD (E2.β id+j) undef)
                  rw[jB hle] at hj
                  split at hj
                  · rename_i hjk
                    rw[if_pos (by omega)] at hg
                    have hlt3:j - k<(a.eval v).cells.toList.length:=by omega
                    rw[show E2.β id+j - (E2.β id+k)=j - k by omega,List.getElem?_eq_getElem hlt3] at hg
                    rw[hgd _ hg]
                    have:=hcells (j - k) B _ hj (by rw[←Array.getElem?_toList];exact List.getElem?_eq_getElem hlt3)
                    rw[show k+(j - k)=j by omega] at this
                    exact this.rowKeep hO
                  · rename_i hjk
                    rw[if_neg (by omega)] at hg
                    have hw:=hf j B hj
                    rw[hgd _ (hg.trans hw)]
                    exact(hold j B hj).rowKeep hO
              have R3:=R2.obj hcs (jg (arr:=arr') hO) (qE R2.lim) rfl hOR
              refine⟨E2.row (E2.ρ id) arr',?_,R3,(P1.trans P2).trans (Jp hO (Ye _) (jM (by rw[hxa] at hq2;exact hq2)))⟩
              rw[←hw1,←hw2]
              simp only[execOp,ho,h1,Sem.run_bind,hrun]
              rfl
          · cases h
        · cases h
      · cases h
    · cases h
  · cases h
end
end Go.Ga

namespace Go.Ga
open Go
section
variable {L:List (List Nat)} {E:Env} {N:Nat} {V:List Nat} {st:zb} {a:Act} {P:Program} {o:Oper} {d:Nat} {tm:Array Value}
def jT (w:World)(sz m:Nat)(v:Value)(news:List Value):Prop:=
 news.length=m*sz∧((∃p,v= .slice p 0 0∧m=0)∨∃b k c,v= .slice (some ⟨b,k,none⟩) m c∧∀(j:Nat) u,news[j]?=some u→w.cell? ⟨b,k+j,none⟩=some u)
theorem jT.first {w:World}{sz m:Nat}{v:Value}{news:List Value}(h:jT w sz m v news):(Builtin.firstCells sz m v).run P w= .ok news.toArray w∧∃p c,v= .slice p m c:=by
 obtain⟨hl,h|⟨b,k,c,rfl,hc⟩⟩:=h
 · obtain⟨p,rfl,rfl⟩:=h
   have:news=[]:=by simpa using hl
   subst this
   cases p with
   |none=>exact⟨by simp[Builtin.firstCells],none,0,rfl⟩
   |some a=>exact⟨run_firstCells_some w sz 0 a 0 0 [] hl (fun j u hj=>by simp at hj),some a,0,rfl⟩
 · exact⟨run_firstCells_some w sz m ⟨b,k,none⟩ m c news hl (fun j u hj=>by rw[Addr.add_lit];exact hc j u hj),_,c,rfl⟩
variable {t ty e:TypeId} {i:TypeInfo} {z:Value}
theorem W6 (ht:P.underlying t=some (.slice e))(hi:P.info? e=some i)(w:World){v:Value}(h:jT w i.size 0 v [])(ty:TypeId):(Builtin.append_ #[t,t] ty #[.slice none 0 0,v]).run P w= .ok (.slice none 0 0) w:=by
 obtain⟨h1,p,c,rfl⟩:=h.first (P:=P)
 simp[Builtin.append_,run_underlying ht,sizeOf,typeInfo,hi,Builtin.lenOf,h1]
theorem Qs (ht:P.underlying t=some (.slice e))(hi:P.info? e=some i){w:World}{b k n cap m:Nat}{arr:Array Value}{T:TypeId}(hb:Jw w b arr T){v:Value}{news:List Value}(h:jT w i.size m v news)
    (hroom:n+m≤cap) (hfit:k+n*i.size+news.length≤arr.size) (h1:∀u∈news,u.oneCell'=true) (ty:TypeId):
    (Builtin.append_ #[t,t] ty #[.slice (some ⟨b,k,none⟩) n cap,v]).run P w= .ok (.slice (some ⟨b,k,none⟩) (n+m) cap) (w.setRow b (arr.toList.take (k+n*i.size)++news++arr.toList.drop (k+n*i.size+news.length)).toArray):=by
  obtain⟨hf,p,c,rfl⟩:=h.first (P:=P)
  have hst:=Z4 (P:=P) b (k+n*i.size) T news 0 arr w hb (by simpa using hfit) h1
  simp only[Nat.add_zero] at hst
  simp[Builtin.append_,run_underlying ht,sizeOf,typeInfo,hi,Builtin.lenOf,hroom,hf,Addr.add_lit,hst]
theorem Qt (ht:P.underlying t=some (.slice e))(hi:P.info? e=some i)(hz:i.zero=some z){w:World}{u v:Value}{n cap m:Nat}{olds news:List Value}(hu:jT w i.size n u olds)(hcap:∃p,u= .slice p n cap)(hv:jT w i.size m v news)
    (hg:cap<n+m) (h63:n+m≤9223372036854775807) (hbytes:(n+m)*i.bytes≤140737488355328) (ty:TypeId):
    ∃c',n+m≤c'∧c'≤maxLen∧(Builtin.append_ #[t,t] ty #[u,v]).run P w= .ok (.slice (some ⟨w.heap.size,0,none⟩) (n+m) c') (w.drew.alloc (.cells (olds.toArray++news.toArray++Builtin.zeroCells z.cells (c' - (n+m))) e)):=by
  obtain⟨p,rfl⟩:=hcap
  refine⟨grownCap w (n+m) cap e,?_,grownCap_le_maxLen w _ _ e (by simp[maxLen];omega),?_⟩
  · simp only[grownCap,Question.cut];omega
  · obtain⟨hf,p',c,rfl⟩:=jT.first (P:=P) (w:=w.drew) (v:=v) (news:=news) (sz:=i.size) (m:=m) hv
    obtain⟨hfo,_⟩:=jT.first (P:=P) (w:=w.drew) (v:= .slice p n cap) (news:=olds) (sz:=i.size) (m:=n) hu
    have hn:¬(n+m≤cap):=by omega
    have h63':¬(9223372036854775807<((n:Int)+(m:Int))):=by omega
    have hfit:=growslice_fits (need:=n+m) (old:=cap) (bytes:=i.bytes) (by omega) hbytes
    have h48':¬(281474976710656<Builtin.nextslicecap (n+m) cap*i.bytes):=by omega
    simp[Builtin.append_,run_underlying ht,sizeOf,typeInfo,zeroValue,hi,hz,Builtin.lenOf,hn,h63',h48',Question.forced,hf,hfo,newRow,grownCap]
    congr 2
    apply Array.ext'
    simp[List.append_assoc]
def j8 :Value→Bool
 | .slice none 0 0=>true
 |_=>false
theorem JP {u:Value}(h:j8 u=true):u= .slice none 0 0:=by
 unfold j8 at h
 split at h
 · rfl
 · cases h
def zb.given (st:zb)(sz:Nat):za→Option (List za)
 | .imm s xs=>if s=sz then some xs else none
 | .sc (.slice none 0 0)=>some []
 | .sl id off len s=>match st.h[id]? with
   |some (some cs)=>if s=sz∧off+len*s≤cs.length∧za.copyableL ((cs.drop off).take (len*s))=true then some ((cs.drop off).take (len*s)) else none
   |_=>none
 |_=>none
def zb.more (st:zb)(sz:Nat)(x:zm):Option (List za×zb):=
  match st.evA x with
  | .at_ p=>match st.at p with
    | some (.own (some s) cs)=>if s=sz then
        bif za.copyableL cs then some (cs,st) else
        match cs,sz with
        |[A],1=>some ([A],(st.kill (za.under p false)).setAt p .dead)
        |_,_=>none
      else none
    |_=>none
  |A=>(st.given sz A).map fun xs=>(xs,st)
def zb.moreQ (L:List (List Nat))(st:zb)(x:zm):Bool:=
 match st.evA x with
 | .at_ p=>match st.at p with
   |some (.own (some _) cs)=>za.copyableL cs||clear L p
   |_=>true
 |_=>true
def Wh :za→Nat
 | .own (some _) cs=>cs.length
 |_=>0
def kK (st:zb)(d:Nat)(s x:zm)(sz bs:Nat):Option zb:=
  match st.use s true with
  | some (S,st1)=>match st1.more sz x with
    | some (xs,st2)=>if za.cellOkL xs=true then
          match S with
          | .own (some s') cs=>if s'=sz∧(cs.length+xs.length)*bs≤140737488355328 then some (st2.putT d (.own (some sz) (cs++xs))) else none
          | .sc u=>if j8 u=true∧xs.length*bs≤140737488355328 then some (st2.putT d (.own (some sz) xs)) else none
          | .sl id off len s'=>match st2.h[id]? with
            |some (some cs)=>if s'=sz∧off+len*sz+xs.length≤cs.length∧za.copyableL xs=true then some ((st2.storeObj id (zK cs (off+len*sz) xs)).putT d (.sl id off (len+xs.length / sz) sz)) else none
            |_=>none
          |_=>none
        else none
    |none=>none
  |none=>none
theorem qh (R:zi E N V st tm){sz:Nat}(hsz:0<sz){X:za}{v:Value}{po:Option (List Nat)}(hX:VRel E po X v){xs:List za}(h:st.given sz X=some xs):
    ∃m news,jT E.w sz m v news∧news.length=xs.length∧∀(k:Nat) A u,xs[k]?=some A→news[k]?=some u→∀po,VRel E po A u:=by
  cases X with
  | imm s ys=>
    simp only[zb.given] at h
    split at h
    · rename_i hs
      subst hs
      cases h
      cases hX with
      | imm _ _ _ b k len cap f hO hb hl hc hf hh=>
        refine⟨len,(List.range xs.length).map f,⟨by simpa using hl.2,.inr ⟨b,k,cap,rfl,fun j u hj=>?_⟩⟩,by simp,fun j A u hA hu po=>?_⟩
        · obtain⟨hlt,rfl⟩:=zS (f:=f) (n:=xs.length) (j:=j) (v:=u) (by simpa using hj)
          exact hf j _ (List.getElem?_eq_getElem hlt)
        · obtain⟨hlt,rfl⟩:=zS (f:=f) (n:=xs.length) (j:=j) (v:=u) (by simpa using hu)
          exact(hh j A hA).any rfl po
      |immNil=>exact⟨0,[],⟨by simp,.inl ⟨_,rfl,rfl⟩⟩,rfl,fun k A u hA=>by simp at hA⟩
    · cases h
  | sc u=>
    simp only[zb.given] at h
    split at h
    · rename_i heq;cases heq
    · rename_i heq
      cases heq
      cases h
      cases hX
      exact⟨0,[],⟨by simp,.inl ⟨_,rfl,rfl⟩⟩,rfl,fun k A u hA=>by simp at hA⟩
    · rename_i heq;cases heq
    · cases h
  | sl id off len s=>
    simp only[zb.given] at h
    split at h
    · rename_i cs hcs
      split at h
      · rename_i hc
        obtain⟨rfl,hle,hcp⟩:=hc
        cases h
        cases hX with
        | sl _ _ _ _ cap _ hid hcap hm hκ=>
          obtain⟨hO,arr,T,f,hb,ha,hl,hf,hv⟩:=R.objs id cs hcs
          have hget:∀j,j<len*s→∃A,cs[off+j]?=some A∧((cs.drop off).take (len*s))[j]?=some A:=fun j hj=>by
            have hlt:off+j<cs.length:=by omega
            refine⟨cs[off+j],List.getElem?_eq_getElem hlt,?_⟩
            rw[List.getElem?_take_of_lt hj,List.getElem?_drop,List.getElem?_eq_getElem hlt]
          refine⟨len,(List.range (len*s)).map fun j=>f (off+j),⟨by simp,.inr ⟨_,_,cap,rfl,fun j u hj=>?_⟩⟩,by simp;omega,fun j A u hA hu po=>?_⟩
          · obtain⟨hlt,rfl⟩:=zS (f:=fun j=>f (off+j)) (n:=len*s) (j:=j) (v:=u) (by simpa using hj)
            obtain⟨A,hA,_⟩:=hget j hlt
            rw[hb.cell,Nat.add_assoc]
            exact hf _ A hA
          · obtain⟨hlt,rfl⟩:=zS (f:=fun j=>f (off+j)) (n:=len*s) (j:=j) (v:=u) (by simpa using hu)
            obtain⟨A',hA',hA2⟩:=hget j hlt
            rw[hA2] at hA
            cases hA
            exact(hv _ A hA').copy _ (zC hcp hA2)
      · cases h
    · cases h
  |_=>simp[zb.given] at h
theorem UR {po:Option (List Nat)}{A:za}{v:Value}(h:VRel E po A v):VRel {E with w:=E.w.drew} po A v:=
 VRel.keep (E:=E) (E':={E with w:=E.w.drew}) ⟨Nat.le_refl _,fun _ _=>⟨rfl,rfl,rfl⟩⟩ (Nat.le_refl _) h fun _ _=>⟨rfl,rfl⟩
theorem Xy (p:List Nat):zM p E {E with w:=E.w.drew}:=⟨Nat.le_refl _,⟨Nat.le_refl _,fun _ _=>⟨rfl,rfl,rfl⟩⟩,fun _ h _=>⟨h,rfl⟩,fun _ _ h _=>⟨h,rfl⟩⟩
theorem qz :zy L E {E with w:=E.w.drew}:=⟨Nat.le_refl _,rfl,rfl,rfl,fun _ h _=>⟨h,rfl⟩,fun _ _ h=>⟨h,rfl⟩,fun _ _ h=>h,⟨Nat.le_refl _,fun _ _=>⟨rfl,rfl,rfl⟩⟩,fun _ _ _ h _=>⟨.inl h,rfl⟩⟩
theorem zi.drew (R:zi E N V st tm):zi {E with w:=E.w.drew} N V st tm:=R.flight (j:=0) (ks:=[]) (Xy _) R.lim rfl
theorem qI (R:zi E N V st a.tmps)(F:zo N V st d){olds news:List Value}{cs xs:List za}(hol:olds.length=cs.length)(hnl:news.length=xs.length){sz n m c':Nat}(hsz:0<sz)(hn:cs.length=n*sz)(hm:xs.length=m*sz)(hzs:z.cells.size=sz)
    (hc:n+m≤c') (hcm:c'≤maxLen) (h1:∀(k:Nat) A u,cs[k]?=some A→olds[k]?=some u→VRel E (some ([0,d]++[k])) A u) (h2:∀(k:Nat) A u,xs[k]?=some A→news[k]?=some u→VRel E (some ([0,d]++[cs.length+k])) A u)
    (hrun:(execOp a.eval o).run P E.w= .ok (.value (.slice (some ⟨E.w.heap.size,0,none⟩) (n+m) c')) (E.w.drew.alloc (.cells (olds.toArray++news.toArray++Builtin.zeroCells z.cells (c' - (n+m))) e))):
    Jj L E N V (st.putT d (.own (some sz) (cs++xs))) a P o d:=by
  have R1:=R.drew
  let arr:=olds.toArray++news.toArray++Builtin.zeroCells z.cells (c' - (n+m))
  have hsize:arr.size=c'*sz:=by
    simp only[arr,Array.size_append,List.size_toArray,size_zeroCells,hol,hnl,hn,hm,hzs,←Nat.add_mul]
    congr 1;omega
  have hget:∀k A,(cs++xs)[k]?=some A→∃u,arr[k]?=some u∧VRel E (some ([0,d]++[k])) A u:=by
    intro k A hk
    rw[List.getElem?_append] at hk
    have harr:arr.toList=olds++news++(Builtin.zeroCells z.cells (c' - (n+m))).toList:=by simp[arr]
    have hg:arr[k]?=(olds++news++(Builtin.zeroCells z.cells (c' - (n+m))).toList)[k]?:=by rw[←harr];simp
    rw[JB] at hg
    split at hk
    · rename_i hlt
      rw[if_pos (by omega)] at hg
      have hlt':k<olds.length:=by omega
      rw[List.getElem?_eq_getElem hlt'] at hg
      exact⟨_,hg,h1 k A _ hk (List.getElem?_eq_getElem hlt')⟩
    · rename_i hge
      have hlt:k - cs.length<xs.length:=(List.getElem?_eq_some_iff.1 hk).1
      rw[if_neg (by omega),if_pos (by omega),hol] at hg
      have hlt':k - cs.length<news.length:=by omega
      rw[List.getElem?_eq_getElem hlt'] at hg
      have h9:=h2 _ A _ hk (List.getElem?_eq_getElem hlt')
      rw[show cs.length+(k - cs.length)=k by omega] at h9
      exact⟨_,hg,h9⟩
  have hlim:∀b q,({E with w:=E.w.drew}:Env).O b=some q→b<({E with w:=E.w.drew}:Env).w.heap.size:=R.lim
  obtain⟨R2,P2⟩:=wI (E:={E with w:=E.w.drew}) R1 F (T:=e) (arr:=arr) (A:= .own (some sz) (cs++xs)) (v:= .slice (some ⟨E.w.heap.size,0,none⟩) (n+m) c')
    (.own [0,d] sz (cs++xs) E.w.heap.size 0 (n+m) c' arr e (fun k=>arr.getD k undef) Ja (.of ZU) ⟨hsz,by rw[List.length_append,hn,hm,Nat.add_mul]⟩ hc hcm (by rw[Nat.zero_add];exact Nat.le_of_eq hsize.symm)
      (fun k A hk=>by
        obtain⟨u,hu,_⟩:=hget k A hk
        rw[Nat.zero_add]
        simp[Array.getD,(Array.getElem?_eq_some_iff.1 hu).1])
      (fun k A hk=>by
        obtain⟨u,hu,hr⟩:=hget k A hk
        have e:arr.getD k undef=u:=by simp[Array.getD,(Array.getElem?_eq_some_iff.1 hu).1,(Array.getElem?_eq_some_iff.1 hu).2]
        rw[e]
        exact(UR hr).fresh_keep hlim _ _))
  exact⟨_,_,hrun,R2,qz.trans P2⟩
theorem wx {p:List Nat}{sz:Nat}{cs:List za}{v:Value}(h:VRel E (some p) (.own (some sz) cs) v)(hne:v≠ .slice none 0 0):
    ∃ b k n cap arr T,v= .slice (some ⟨b,k,none⟩) n cap∧E.O b=some p∧Jw E.w b arr T∧0<sz∧cs.length=n*sz∧n≤cap∧cap≤maxLen∧k+cap*sz≤arr.size∧
      ∃olds:List Value,olds.length=cs.length∧(∀j u,olds[j]?=some u→arr[k+j]?=some u)∧∀(j:Nat) A u,cs[j]?=some A→olds[j]?=some u→VRel E (some (p++[j])) A u:=by
  cases h with
  | own _ _ _ b k n cap arr T f hO hb hl hc hm ha hf hh=>
    refine⟨b,k,n,cap,arr,T,rfl,hO,hb,hl.1,hl.2,hc,hm,ha,(List.range cs.length).map f,by simp,fun j u hj=>?_,fun j A u hA hu=>?_⟩
    · obtain⟨hlt,rfl⟩:=zS (f:=f) (n:=cs.length) (j:=j) (v:=u) (by simpa using hj)
      exact hf j _ (List.getElem?_eq_getElem hlt)
    · obtain⟨hlt,rfl⟩:=zS (f:=f) (n:=cs.length) (j:=j) (v:=u) (by simpa using hu)
      exact hh j A hA
  |ownNil=>exact absurd rfl hne
def za.slQ (L:List (List Nat)):za→Bool
 | .sl id _ _ _=> !L.contains [1,id]
 |_=>true
def zb.appQ (L:List (List Nat))(st:zb)(s x:zm):Bool:=
 st.useQ L s true&&match st.use s true with
  |some (S,st1)=>st1.moreQ L x&&S.slQ L
  |none=>true
theorem Ka (A:za):A.slQ []=true:=by cases A<;>rfl
theorem UA {st:zb}{x:zm}:st.moreQ [] x=true:=by
 unfold zb.moreQ
 split
 · split
   · rw[UX,Bool.or_true]
   · rfl
 · rfl
theorem kz {st:zb}{s x:zm}:st.appQ [] s x=true:=by
 unfold zb.appQ
 rw[J1,Bool.true_and]
 split
 · rw[UA,Ka];rfl
 · rfl
theorem qD {sz:Nat}{x:zm}{xs:List za}{st1:zb}(h:st.more sz x=some (xs,st1)):st1.ts.map (·.1)=st.ts.map (·.1):=by
 unfold zb.more at h
 split at h
 · split at h
   · split at h
     · rcases zE h with⟨_,h⟩|⟨_,h⟩
       · cases h;rfl
       · split at h
         · cases h;exact ZC.trans z1
         · cases h
     · cases h
   · cases h
 · obtain⟨ys,_,e⟩:=Option.map_eq_some_iff.1 h
   cases e;rfl
theorem UP (R:zi E N V st a.tmps){x:Operand}{ox:zm}(hx:zd x=some ox){sz:Nat}(hsz:0<sz){A:za}(hA:st.evA ox=A){xs:List za}(h:st.given sz A=some xs):
    ∃m news,jT E.w sz m (a.eval x) news∧news.length=xs.length∧∀(k:Nat) A u,xs[k]?=some A→news[k]?=some u→∀po,VRel E po A u:=by
  have hn:A.isAlias=false:=by
    cases A<;>first
      |rfl
      |(simp[zb.given] at h)
  obtain⟨v,po,h1,h2,_⟩:=zj R hx (zO hA hn) hn
  rw[h1]
  exact qh R hsz h2 h
theorem XZ (R :zi E N V st a.tmps){x:Operand}{ox:zm}(hx:zd x=some ox){sz:Nat}(hsz:0<sz){xs:List za}{st1:zb}(h:st.more sz ox=some (xs,st1))(hq:st.moreQ L ox=true){S:za}{u:Value}(hS:VRel E (some [9,0]) S u)(n:Nat):
    ∃E1 m news,zi E1 N V st1 a.tmps∧E1.w=E.w∧zy L E E1∧VRel E1 (some [9,0]) S u∧jT E1.w sz m (a.eval x) news∧news.length=xs.length∧∀(k:Nat) A u,xs[k]?=some A→news[k]?=some u→VRel E1 (some ([9,0]++[n+k])) A u:=by
  unfold zb.more at h
  unfold zb.moreQ at hq
  split at h
  · rename_i p hev
    rw[hev] at hq
    simp only[] at hq
    split at h
    · rename_i s cs hp
      rw[hp] at hq
      simp only[] at hq
      split at h
      · rename_i hs
        subst hs
        obtain⟨B,v,h1,h2,h3,h4,h5⟩:=Q2 R hx hev
        rw[hp] at h1
        cases h1
        rw[h4]
        have cells:∃m news,jT E.w s m v news∧news.length=cs.length∧∀(k:Nat) A u,cs[k]?=some A→news[k]?=some u→VRel E (some (p++[k])) A u:=by
          cases h5 with
          | own _ _ _ b k len cap arr T f hO hb hl hc hm ha hf hh=>
            refine⟨len,(List.range cs.length).map f,⟨by simpa using hl.2,.inr ⟨b,k,cap,rfl,fun j u hj=>?_⟩⟩,by simp,fun j A u hA hu=>?_⟩
            · obtain⟨hlt,rfl⟩:=zS (f:=f) (n:=cs.length) (j:=j) (v:=u) (by simpa using hj)
              rw[hb.cell]
              exact hf j _ (List.getElem?_eq_getElem hlt)
            · obtain⟨hlt,rfl⟩:=zS (f:=f) (n:=cs.length) (j:=j) (v:=u) (by simpa using hu)
              exact hh j A hA
          |ownNil=>exact⟨0,[],⟨by simp,.inl ⟨_,rfl,rfl⟩⟩,rfl,fun k A u hA=>by simp at hA⟩
        obtain⟨m,news,hH,hnl,hcs⟩:=cells
        cases hc:za.copyableL cs with
        | true=>
          rw[hc] at h
          cases h
          exact⟨E,m,news,R,rfl,zy.refl E,hS,hH,hnl,fun k A u hA hu=>(hcs k A u hA hu).copy _ (zC hc hA)⟩
        | false=>
          rw[hc] at h hq
          simp only[cond_false] at h
          simp only[Bool.false_or] at hq
          split at h
          · rename_i A
            cases h
            have U:zM p E (E.relab p [9,1]):=zI p [9,1]
            have R2:=R.turn (B':= .dead) (keep:=false) hp rfl (fun e=>by cases e) U (Zx R.lim) rfl h3 (.dead _ _)
            have hS2:VRel (E.relab p [9,1]) (some [9,0]) S u:=hS.aside p [9,1] fun ℓ e=>by cases e;exact Wg (zq hp) 0
            have hA2:∀w,news[0]?=some w→VRel (E.relab p [9,1]) (some [9,1,0]) A w:=fun w hw=>by
              have:=((hcs 0 A w rfl hw).moved p [9,1] [0]).2 rfl
              simpa using this
            have R3:=R2.flight (j:=1) (ks:=[0]) (zI [9,1,0] [9,0,n]) (Zx R2.lim) rfl
            have hS3:VRel ((E.relab p [9,1]).relab [9,1,0] [9,0,n]) (some [9,0]) S u:=hS2.aside [9,1,0] [9,0,n] fun ℓ e=>by cases e;exact⟨by simp,by simp⟩
            refine⟨_,m,news,R3,rfl,(zk (Zo (zq hp)) (z6 _) (Js hq)).trans (zk (z6 _) (z6 _) (zN (by decide) _)),hS3,hH,hnl,fun k B w hB hw=>?_⟩
            cases k with
            | zero=>
              cases hB
              have:=((hA2 w hw).moved [9,1,0] [9,0,n] []).2 rfl
              simpa using this
            |succ k=>simp at hB
          · cases h
      · cases h
    · cases h
  · rename_i A hne
    obtain⟨ys,hg,e⟩:=Option.map_eq_some_iff.1 h
    cases e
    obtain⟨m,news,h1,h2,h3⟩:=UP R hx hsz rfl hg
    exact⟨E,m,news,R,rfl,zy.refl E,hS,h1,h2,fun k A u hA hu=>h3 k A u hA hu _⟩
theorem GG (R : zi E N V st a.tmps)(F:zo N V st d){s x:Operand}{os ox:zm}(ho:o.op= .call {callee:= .builtin .append,args:= #[s,x],argTypes:= #[t,t]})(ht:P.underlying t=some (.slice e))(hi:P.info? e=some i)(hz:i.zero=some z)(hzs:z.cells.size=i.size)(hsz:0<i.size)(hby:0<i.bytes)
    (hs:zd s=some os) (hx:zd x=some ox) {st':zb} (h:kK st d os ox i.size i.bytes=some st') (hq:st.appQ L os ox=true):Jj L E N V st' a P o d:=by
  unfold kK at h
  split at h
  case h_2=>cases h
  rename_i S st1 hus
  split at h
  case h_2=>cases h
  rename_i xs st2 hux
  split at h
  case isFalse=>cases h
  rename_i hok
  simp only[zb.appQ,Bool.and_eq_true,hus] at hq
  obtain⟨hq1,hq2,hq3⟩:=hq
  obtain⟨E1,R1,F1,P1,hw1⟩:=Zv R hs hus 0 (l:=[]) (fun x hx=>by cases hx) (fun x hx=>by cases hx) hq1
  have hS1:VRel E1 (some [9,0]) S (a.eval s):=F1 _ (List.mem_cons_self ..)
  obtain⟨E3,m,news,R3,hw31,P31,hS3,hHold,hnl,hxs⟩:=XZ R1 hx hsz hux hq2 hS1 (Wh S)
  have P3:zy L E E3:=P1.trans P31
  have hw3:E3.w=E.w:=hw31.trans hw1
  have F3:zo N V st2 d:=F.of ((qD hux).trans (zP hus))
  have hxm:xs.length=m*i.size:=hnl▸hHold.1
  have hrun:∀w,(execOp a.eval o).run P w=((Builtin.append_ #[t,t] o.type #[a.eval s,a.eval x]).run P w).andThen (fun v w=> .ok (.value v) w):=fun w=>by
    simp[execOp,ho,resolve,invoke,builtin]
  have hone:∀u∈news,u.oneCell'=true:=by
    intro u hu
    obtain⟨j,hj⟩:=List.mem_iff_getElem?.1 hu
    have hlt:j<xs.length:=by rw[←hnl];exact(List.getElem?_eq_some_iff.1 hj).1
    exact(hxs j _ u (List.getElem?_eq_getElem hlt) hj).oneCell (Jc hok (List.getElem?_eq_getElem hlt))
  have hmb:m≤xs.length:=by rw[hxm];exact Nat.le_mul_of_pos_right _ hsz
  have fits:∀k,k*i.bytes≤140737488355328→k≤9223372036854775807:=fun k hk=>by have:=Nat.le_mul_of_pos_right k hby;omega
  have nilcase:a.eval s= .slice none 0 0→(Wh S)=0→xs.length*i.bytes≤140737488355328→Jj L E N V (st2.putT d (.own (some i.size) xs)) a P o d:=by
    intro hnil hz0 hb
    rw[hz0] at hxs
    have R3':=R3.land (j:=0) [0,d]
    have hxs':∀(k:Nat) A u,xs[k]?=some A→news[k]?=some u→VRel (E3.relab [9,0] [0,d]) (some ([0,d]++[([]:List za).length+k])) A u:=fun k A u hA hu=>by
      have:=((hxs k A u hA hu).moved [9,0] [0,d] [0+k]).2 rfl
      simpa using this
    have P3':zy L E (E3.relab [9,0] [0,d]):=P3.trans (zk (z6 _) (jp _ _) (zN (by decide) _))
    by_cases hm:m=0
    · subst hm
      have hx0:xs=[]:=by simpa using hxm
      have hn0:news=[]:=by rw[hx0] at hnl;simpa using hnl
      subst hx0 hn0
      refine⟨.slice none 0 0,E3,?_,R3.putT_val F3.lt F3.v F3.t (.ownNil _ _),P3⟩
      rw[hrun,hnil,←hw3,W6 ht hi E3.w hHold]
      rfl
    · have hb2:(0+m)*i.bytes≤140737488355328:=by rw[Nat.zero_add];exact Nat.le_trans (Nat.mul_le_mul_right _ hmb) hb
      obtain⟨c',hc1,hc2,hr⟩:=Qt (P:=P) (w:=(E3.relab [9,0] [0,d]).w) (u:= .slice none 0 0) (n:=0) (cap:=0) (olds:=[]) ht hi hz ⟨by simp,.inl ⟨_,rfl,rfl⟩⟩ ⟨none,rfl⟩ hHold (by omega) (fits _ hb2) hb2 o.type
      have:=qI (L:=L) (P:=P) (o:=o) (e:=e) (z:=z) R3' F3 (olds:=[]) (news:=news) (cs:=[]) (xs:=xs) rfl hnl hsz (n:=0) (m:=m) (c':=c') (by simp) hxm hzs hc1 hc2 (fun k A u hA=>by simp at hA) hxs' (by rw[hrun,hnil,hr];rfl)
      obtain⟨v,E4,h1,h2,h3⟩:=this
      exact⟨v,E4,by rw[←hw3];exact h1,by simpa using h2,P3'.trans h3⟩
  cases S with
  | sl id off len s'=>
    simp only[] at h
    split at h
    · rename_i cs hcs
      split at h
      · rename_i hc
        obtain⟨rfl,hle,hcp⟩:=hc
        cases h
        generalize hsv:a.eval s=y at hS3
        cases hS3 with
        | sl _ _ _ _ cap _ hid hcap hm hκ=>
          obtain⟨hO,arr,T,f,hb,ha,hl,hf,hold⟩:=R3.objs id cs hcs
          have hroom:len+m≤cap:=by
            have:(len+m)*i.size≤cap*i.size:=by rw[Nat.add_mul];omega
            exact Nat.le_of_mul_le_mul_right this hsz
          have hmul:(len+m)*i.size≤cap*i.size:=Nat.mul_le_mul_right _ hroom
          rw[Nat.add_mul] at hmul
          have hfit:E3.β id+off+len*i.size+news.length≤arr.size:=by rw[hnl,hxm];omega
          have hr:=Qs (P:=P) ht hi hb hHold hroom hfit hone o.type
          let arr':=(arr.toList.take (E3.β id+off+len*i.size)++news++arr.toList.drop (E3.β id+off+len*i.size+news.length)).toArray
          have hs':arr'.size=arr.size:=Jn hfit
          have hOR:JU (E3.row (E3.ρ id) arr') id (zK cs (off+len*i.size) xs):=by
            refine⟨hO,arr',T,fun j=>arr'.getD (E3.β id+j) undef,hb.set hs',by rw[hs'];exact ha,by rw[zR hle];exact hl,fun j B hj=>?_,fun j B hj=>?_⟩
            · have hlt:j<cs.length:=by rw[←zR hle];exact(List.getElem?_eq_some_iff.1 hj).1
              have:E3.β id+j<arr'.size:=by rw[hs'];omega
              show arr'[E3.β id+j]?=some (arr'.getD (E3.β id+j) undef)
              simp[Array.getD,this]
            · have hlt:j<cs.length:=by rw[←zR hle];exact(List.getElem?_eq_some_iff.1 hj).1
              have hlt2:E3.β id+j<arr'.size:=by rw[hs'];omega
              have hg:=qy (arr:=arr) (vs:=news) hfit (E3.β id+j)
              have hgd:∀u,arr'[E3.β id+j]?=some u→arr'.getD (E3.β id+j) undef=u:=fun u hu=>by simp[Array.getD,hlt2,(Array.getElem?_eq_some_iff.1 hu).2]
              show VRel (E3.row (E3.ρ id) arr') (some ([1,id]++[j])) B (arr'.getD (E3.β id+j) undef)
              rw[jB hle] at hj
              split at hj
              · rename_i hjk
                rw[if_pos (by omega)] at hg
                have hlt3:j - (off+len*i.size)<news.length:=by omega
                rw[show E3.β id+j - (E3.β id+off+len*i.size)=j - (off+len*i.size) by omega,List.getElem?_eq_getElem hlt3] at hg
                rw[hgd _ hg]
                have:=(hxs _ B _ hj (List.getElem?_eq_getElem hlt3)).copy (some ([1,id]++[j])) (zC hcp hj)
                exact this.rowKeep hO
              · rename_i hjk
                rw[if_neg (by omega)] at hg
                have hw:=hf j B hj
                rw[hgd _ (hg.trans hw)]
                exact(hold j B hj).rowKeep hO
          have R4:=R3.obj hcs (jg (arr:=arr') hO) (qE R3.lim) rfl hOR
          have F4:zo N V (st2.storeObj id (zK cs (off+len*i.size) xs)) d:=F3.of (by simp only[zb.storeObj];exact z1)
          have hdiv:xs.length / i.size=m:=by rw[hxm,Nat.mul_div_cancel _ hsz]
          refine⟨.slice (some ⟨E3.ρ id,E3.β id+off,none⟩) (len+m) cap,E3.row (E3.ρ id) arr',?_,R4.putT_val F4.lt F4.v F4.t ?_,P3.trans (Jp hO (Ye _) (jM (by simpa[za.slQ] using hq3)))⟩
          · rw[hrun,hsv,←hw3,hr];rfl
          · rw[hdiv]
            exact VRel.sl (E:=E3.row (E3.ρ id) arr') (some [0,d]) id off (len+m) cap i.size hid hroom hm hκ
      · cases h
    · cases h
  | own hd cs =>
    cases hd with
    |none=>cases h
    | some s' =>
      simp only[] at h
      split at h
      · rename_i hc
        obtain⟨rfl,hb⟩:=hc
        cases h
        by_cases hnil:a.eval s= .slice none 0 0
        · rw[hnil] at hS3
          cases hS3
          exact nilcase hnil rfl (by simpa using hb)
        · obtain ⟨b,k,n,cap,arr,T,hsv,hO,hbb,_,hcn,hnc,hcm,ha,olds,hol,hold,holdv⟩:=wx hS3 hnil
          have hnb:n≤cs.length:=by rw[hcn];exact Nat.le_mul_of_pos_right _ hsz
          have hb2:(n+m)*i.bytes≤140737488355328:=Nat.le_trans (Nat.mul_le_mul_right _ (Nat.add_le_add hnb hmb)) hb
          by_cases hroom:n+m≤cap
          · 
            have hmul:(n+m)*i.size≤cap*i.size:=Nat.mul_le_mul_right _ hroom
            rw[Nat.add_mul] at hmul
            have hfit:k+n*i.size+news.length≤arr.size:=by rw[hnl,hxm];omega
            have hr:=Qs (P:=P) ht hi hbb hHold hroom hfit hone o.type
            let arr':=(arr.toList.take (k+n*i.size)++news++arr.toList.drop (k+n*i.size+news.length)).toArray
            have hs':arr'.size=arr.size:=Jn hfit
            have hget:∀j A,(cs++xs)[j]?=some A→∃u,arr'[k+j]?=some u∧VRel (E3.row b arr') (some ([9,0]++[j])) A u:=by
              intro j A hj
              have hg:=qy (arr:=arr) (vs:=news) hfit (k+j)
              rw[List.getElem?_append] at hj
              split at hj
              · rename_i hlt
                rw[if_neg (by omega)] at hg
                have hlt':j<olds.length:=by omega
                have hoj:=hold j _ (List.getElem?_eq_getElem hlt')
                exact⟨_,hg.trans hoj,(holdv j A _ hj (List.getElem?_eq_getElem hlt')).rowKeep hO⟩
              · rename_i hge
                have hlt:j - cs.length<xs.length:=(List.getElem?_eq_some_iff.1 hj).1
                rw[if_pos (by omega),show k+j - (k+n*i.size)=j - cs.length by omega] at hg
                have hlt':j - cs.length<news.length:=by omega
                rw[List.getElem?_eq_getElem hlt'] at hg
                have h9:=hxs _ A _ hj (List.getElem?_eq_getElem hlt')
                rw[show Wh (.own (some i.size) cs)+(j - cs.length)=j by simp only[Wh];omega] at h9
                exact⟨_,hg,h9.rowKeep hO⟩
            have hv:VRel (E3.row b arr') (some [9,0]) (.own (some i.size) (cs++xs)) (.slice (some ⟨b,k,none⟩) (n+m) cap):=
              .own [9,0] i.size (cs++xs) b k (n+m) cap arr' T (fun j=>arr'.getD (k+j) undef) hO (hbb.set hs') ⟨hsz,by rw[List.length_append,hcn,hxm,Nat.add_mul]⟩ hroom hcm (by rw[hs'];exact ha)
                (fun j A hj=>by
                  obtain⟨u,hu,_⟩:=hget j A hj
                  simp[Array.getD,(Array.getElem?_eq_some_iff.1 hu).1])
                (fun j A hj=>by
                  obtain⟨u,hu,hr⟩:=hget j A hj
                  have e:arr'.getD (k+j) undef=u:=by simp[Array.getD,(Array.getElem?_eq_some_iff.1 hu).1,(Array.getElem?_eq_some_iff.1 hu).2]
                  rw[e];exact hr)
            have R4:=R3.flight (j:=0) (ks:=[]) (jg (arr:=arr') hO) (qE R3.lim) rfl
            have R5:=(R4.land (j:=0) [0,d]).putT_val F3.lt F3.v F3.t (hv.land [0,d])
            refine⟨_,(E3.row b arr').relab [9,0] [0,d],?_,R5,(P3.trans (Jp hO (z6 _) (zN (by decide) _ _ (List.prefix_refl _)))).trans (zk (z6 _) (jp _ _) (zN (by decide) _))⟩
            rw[hrun,hsv,←hw3,hr]
            rfl
          · 
            have R4:=R3.land (j:=0) [0,d]
            have hHs:jT (E3.relab [9,0] [0,d]).w i.size n (.slice (some ⟨b,k,none⟩) n cap) olds:=by
              refine⟨by rw[hol,hcn],.inr ⟨b,k,cap,rfl,fun j u hj=>?_⟩⟩
              show E3.w.cell? _=_
              rw[hbb.cell]
              exact hold j u hj
            obtain⟨c',hc1,hc2,hr⟩:=Qt (P:=P) (w:=(E3.relab [9,0] [0,d]).w) ht hi hz hHs ⟨_,rfl⟩ hHold (by omega) (fits _ hb2) hb2 o.type
            have U:=zI (E:=E3) [9,0] [0,d]
            have:=qI (L:=L) (P:=P) (o:=o) (e:=e) (z:=z) R4 F3 (olds:=olds) (news:=news) (cs:=cs) (xs:=xs) hol hnl hsz (n:=n) (m:=m) (c':=c') hcn hxm hzs hc1 hc2
              (fun j A u hA hu=>by
                have:=((holdv j A u hA hu).moved [9,0] [0,d] [j]).2 rfl
                simpa using this)
              (fun j A u hA hu=>by
                have:=((hxs j A u hA hu).moved [9,0] [0,d] [cs.length+j]).2 rfl
                simpa using this) (by rw[hrun,hsv,hr];rfl)
            obtain⟨v,E4,h1,h2,h3⟩:=this
            exact⟨v,E4,by rw[←hw3];exact h1,h2,(P3.trans (zk (z6 _) (jp _ _) (zN (by decide) _))).trans h3⟩
      · cases h
  | sc u=>
    simp only[] at h
    by_cases hc:j8 u=true∧xs.length*i.bytes≤140737488355328
    · rw[if_pos hc] at h
      cases h
      have:=JP hc.1
      subst this
      exact nilcase (by generalize a.eval s=y at hS3;cases hS3;rfl) rfl hc.2
    · rw[if_neg hc] at h;cases h
  |_=>cases h
end
end Go.Ga
